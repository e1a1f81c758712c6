/-
  Contract of inquestlaw19.wakes.
-/
import Derived.Test.YtiiljlmeililbaaGreatDoorBeGr44
import Derived.Test.YtiiljlmeililbaaGreatDoorBeGr28
import Derived.Test.YtiiljlmeililbaaGreatDoorBeGr27
import Derived.Lib.SlBytesConst
import Derived.Test.YtiiljlmeililbaaGreatDoorBeGr32
import Derived.Test.YtiiljlmeililbaaGreatDoorBeGr31
import Derived.Test.YtiiljlmeililbaaGreatDoorBeGr34
import Derived.Test.YtiiljlmeililbaaGreatDoorBeGr3
import Derived.Test.YtiiljlmeililbaaGreatDoorBeGr30
import Derived.Test.YtiiljlmeililbaaGreatDoorBeGr29
namespace Go.Proofs.YtiiljlmeililbaaGreatDoor
set_option linter.unusedVariables false
set_option maxRecDepth 100000
open Go.RowKit Go.Maps
structure NTree (w : World) (gt gp : Nat) (F : Nat->Prop) (st : PgS) (w' : World) : Prop where
 pg : PgAt w' F gp st
 tr : TreeAt w' F gt gp 0
 bl : Below w.heap.size w w'
 up : ∀ k,F k->w.heap.size<=k
theorem NTree.alloc {w w' : World} {gt gp : Nat} {F : Nat->Prop} {st : PgS} (h : NTree w gt gp F st w') (o : Obj) : NTree w gt gp F st (w'.alloc o) :=
 ⟨h.pg.alloc o,h.tr.ev ((Ev.refl F w').alloc_ o),h.bl.alloc h.bl.size o,h.up⟩
theorem NTree.ev {w w' w'' : World} {gt gp : Nat} {F F' : Nat->Prop} {st st' : PgS} (h : NTree w gt gp F st w') (he : Ev F w' F' w'') (hp : PgAt w'' F' gp st') : NTree w gt gp F' st' w'' :=
 ⟨hp,h.tr.ev he,h.bl.trans (Only.below he.only h.up h.bl.size),fun k hk => by
   rcases he.grow k hk with h1 | h1
   · exact h.up k h1
   · have:=h.bl.size; omega⟩
theorem mb_new (w : World) (F : Nat->Prop) (hF : ∀ k,F k->k < w.heap.size) (l : List UInt8) (fr : Nat × Nat) (w' : World) (hB : Below (w.heap.size + 1) (w.alloc (.cells (bv l).toArray 5 fr)) w') : MB F w' (some ⟨w.heap.size,0,none⟩) l.length l:=by
 have hz : (w.alloc (.cells (bv l).toArray 5 fr)).heap.size=w.heap.size + 1:=World.size_alloc _ _
 have hs:=hB.size
 refine ⟨by simp [bv],fun _ => ⟨_,rfl,⟨by show w.heap.size < _; omega,fun hf => by have h9 : w.heap.size < w.heap.size:=hF _ hf; omega⟩,fun j u hj => ?_⟩⟩
 rw [show (⟨w.heap.size,0,none⟩ : Addr).add j=⟨w.heap.size,0 + j,none⟩ from Addr.add_mid _ _ _,Nat.zero_add]
 rw [hB.cell (p:=⟨w.heap.size,j,none⟩) (by show w.heap.size < _; omega)]
 rw [cell_of_row _ w.heap.size j (bv l).toArray 5 fr (heap_alloc_new w _)]
 simpa using hj
set_option maxHeartbeats 1000000 in
theorem wakes_any (w : World) : Calls Tryz.prog 6 #[] w fun e w' => e=.returned (.bool true)/\Below w.heap.size w w':=by
 have hnew : Hid (Calls Tryz.prog 8 #[.int .i64 1000] w (FNewRet w 1000)):=hide (fnew_any w 1000 (by omega) (by omega))
 have kc:=fun (wx : World) (C : Array Value) (n c : Nat) => Lib.run_convert_bytes_const (P:=Tryz.prog) wx 37 5 C n c Tryz.underlying37 Tryz.underlying5
 go_enter Tryz.func6,Tryz.ntmps6
 go_wp2_with fail
 refine hnew.out.mono ?_
 rintro e w1 ⟨gf,bm,rfl,hfs,hB1⟩
 have hf0:=hfs (dbN [120]) (logN [120]) (db_ne [120])
 have hf : FSAt w1 0 gf bm 1000 0 (dbN [120]) (logN [120]) none none:=⟨hf0.st,hf0.mp,hf0.ne,Nat.zero_le _,Nat.zero_le _⟩
 have hg1:=hf0.gB
 have hg2:=hf0.bB
 have hop : Hid (Calls Tryz.prog 7 #[.pointer (some ⟨gf,0,none⟩),.string ⟨#[120]⟩] w1 (OpRet w1 gf bm [120])):=hide (open_new w1 gf bm 1000 0 [120] hf name_d name_l (by decide) (by decide) (by omega) (by omega) (by omega))
 replace hfs:=hide hfs
 replace hf0:=hide hf0
 replace hf:=hide hf
 replace hB1:=hide hB1
 clear hnew
 go_wp2_with fail
 refine hop.out.mono ?_
 rintro e w2 ⟨gp,gm,gc0,rfl,g1,g2,hbp,him,hFr⟩
 have hP2:=pg_at hbp him
 obtain ⟨F,hF⟩ : ∃ F : Nat->Prop,F=(fun k => k=gp \/ k=gm):=⟨_,rfl⟩
 rw [<- hF] at hP2
 have hFB : ∀ k,F k->w.heap.size<=k:=fun k hk => by
   have:=hB1.out.size
   rw [hF] at hk
   rcases hk with rfl | rfl <;> omega
 have hB2 : Below w.heap.size w w2:=hB1.out.trans (Only.below hFr (fun k hk => by
   have:=hB1.out.size
   rcases hk with rfl | rfl | hk <;> omega) hB1.out.size)
 have hO3 : Below w2.heap.size w2 (w2.alloc (.cells #[.pointer (some ⟨gp,0,none⟩),.int .i64 0] 81)):=(Below.refl _ _).alloc (Nat.le_refl _) _
 have htn : Hid (Calls Tryz.prog 9 #[.pointer (some ⟨gp,0,none⟩),.int .i64 0] w2 fun e w' => e=.returned (.tuple #[.pointer (some ⟨w2.heap.size,0,none⟩),.int .i64 0])/\w'=w2.alloc (.cells #[.pointer (some ⟨gp,0,none⟩),.int .i64 0] 81)):=hide (tnew_any w2 gp 0 (by omega))
 have kc2 : ∀ (wx : World) (o : Obj) (C : Array Value) (n c : Nat),(convert 37 37 (.slice (some ⟨wx.heap.size + 1,0,none⟩) n c)).run Tryz.prog ((wx.alloc o).alloc (.cells C 5))=.ok (.slice (some ⟨wx.heap.size + 1,0,none⟩) n c) ((wx.alloc o).alloc (.cells C 5 (C.size,C.size + 1))):=fun wx o C n c => by
   have:=kc (wx.alloc o) C n c
   rw [World.size_alloc] at this
   exact this
 have hT3 : ∀ W,W=w2.alloc (.cells #[.pointer (some ⟨gp,0,none⟩),.int .i64 0] 81)->NTree w w2.heap.size gp F hd1 W:=fun W hW => by
   rw [hW]
   exact ⟨hP2.alloc _,⟨Blk.new w2 81 _,fun hf => by have:=hP2.lt _ hf; omega⟩,hB2.trans (hO3.mono hB2.size),hFB⟩
 obtain ⟨gt,hgt⟩ : ∃ gt,gt=w2.heap.size:=⟨_,rfl⟩
 rw [<- hgt] at htn hT3
 replace hT3:=hide hT3
 replace hB2:=hide hB2
 replace hO3:=hide hO3
 replace hP2:=hide hP2
 replace hbp:=hide hbp
 replace him:=hide him
 replace hFr:=hide hFr
 replace hF:=hide hF
 replace hFB:=hide hFB
 replace hgt:=hide hgt
 clear hop
 go_wp2_with fail
 refine htn.out.mono ?_
 rintro e w3 ⟨rfl,hw3⟩
 have hT:=hide (hT3.out w3 hw3)
 clear htn hw3 hT3
 obtain ⟨o1,ho1⟩ : ∃ o1,o1=Obj.cells (bv [98]).toArray 5 (1,2):=⟨_,rfl⟩
 obtain ⟨o2,ho2⟩ : ∃ o2,o2=Obj.cells (bv [50]).toArray 5 (1,2):=⟨_,rfl⟩
 have hT5:=(hT.out.alloc o1).alloc o2
 have hz1 : (w3.alloc o1).heap.size=w3.heap.size + 1:=World.size_alloc _ _
 have hk1 : MB F ((w3.alloc o1).alloc o2) (some ⟨w3.heap.size,0,none⟩) 1 [98]:=by
   rw [ho1]
   exact mb_new w3 F hT.out.pg.lt [98] (1,2) _ ((Below.refl _ _).alloc (by rw [<- ho1,hz1]; exact Nat.le_refl _) _)
 have hv1 : MB F ((w3.alloc o1).alloc o2) (some ⟨w3.heap.size + 1,0,none⟩) 1 [50]:=by
   have:=mb_new (w3.alloc o1) F (hT.out.alloc o1).pg.lt [50] (1,2) ((w3.alloc o1).alloc o2) (by rw [ho2]; exact Below.refl _ _)
   rw [hz1] at this
   exact this
 have hp1 : Hid (∀ W,W=(w3.alloc o1).alloc o2->Calls Tryz.prog 11 #[.pointer (some ⟨gt,0,none⟩),.slice (some ⟨w3.heap.size,0,none⟩) 1 1,.slice (some ⟨w3.heap.size + 1,0,none⟩) 1 1] W (PgEnd F W gp stA (.int .i64 0))):=hide fun W hW => by
   rw [hW]
   exact put_first ((w3.alloc o1).alloc o2) F gt gp 0 hd1 hT5.pg hT5.tr (by omega) [98] [50] _ _ 1 1 hk1 hv1 (by decide) (by decide) (by decide) rfl al1 (by decide) save1 (by decide)
 replace hT5:=hide hT5
 replace hk1:=hide hk1
 replace hv1:=hide hv1
 clear hz1
 go_upto_region 5 with (fail)
 go_wp2_with fail
 refine (hp1.out _ (by rw [ho1,ho2]; rfl)).mono ?_
 rintro e w4 ⟨rfl,F2,hP4,hE4⟩
 have hT6:=hide (hT5.out.ev (by rw [ho1,ho2]; exact hE4) hP4)
 replace hE4:=hide hE4
 replace hP4:=hide hP4
 replace ho1:=hide ho1
 replace ho2:=hide ho2
 clear hp1 hT5 hk1 hv1
 obtain ⟨o3,ho3⟩ : ∃ o3,o3=Obj.cells (bv [97]).toArray 5 (1,2):=⟨_,rfl⟩
 obtain ⟨o4,ho4⟩ : ∃ o4,o4=Obj.cells (bv [49]).toArray 5 (1,2):=⟨_,rfl⟩
 have hT7:=(hT6.out.alloc o3).alloc o4
 have hz1 : (w4.alloc o3).heap.size=w4.heap.size + 1:=World.size_alloc _ _
 have hk1 : MB F2 ((w4.alloc o3).alloc o4) (some ⟨w4.heap.size,0,none⟩) 1 [97]:=by
   rw [ho3]
   exact mb_new w4 F2 hT6.out.pg.lt [97] (1,2) _ ((Below.refl _ _).alloc (by rw [<- ho3,hz1]; exact Nat.le_refl _) _)
 have hv1 : MB F2 ((w4.alloc o3).alloc o4) (some ⟨w4.heap.size + 1,0,none⟩) 1 [49]:=by
   have:=mb_new (w4.alloc o3) F2 (hT6.out.alloc o3).pg.lt [49] (1,2) ((w4.alloc o3).alloc o4) (by rw [ho4]; exact Below.refl _ _)
   rw [hz1] at this
   exact this
 have hp1 : Hid (∀ W,W=(w4.alloc o3).alloc o4->Calls Tryz.prog 11 #[.pointer (some ⟨gt,0,none⟩),.slice (some ⟨w4.heap.size,0,none⟩) 1 1,.slice (some ⟨w4.heap.size + 1,0,none⟩) 1 1] W (PgEnd F2 W gp stB (.int .i64 0))):=hide fun W hW => by
   rw [hW]
   exact put_more ((w4.alloc o3).alloc o4) F2 gt gp 0 stA hT7.pg hT7.tr (by omega) [97] [49] _ _ 1 1 hk1 hv1 (by decide) (by decide) (by decide) 1 root1 (by decide) nd1 nd2 load1 rfl (by rw [find1]) ins1 save2
 replace hT7:=hide hT7
 replace hk1:=hide hk1
 replace hv1:=hide hv1
 clear hz1
 go_wp2_with fail
 refine (hp1.out _ (by rw [ho3,ho4]; rfl)).mono ?_
 rintro e w5 ⟨rfl,F3,hP5,hE5⟩
 have hT8:=hide (hT7.out.ev (by rw [ho3,ho4]; exact hE5) hP5)
 replace hE5:=hide hE5
 replace hP5:=hide hP5
 replace ho3:=hide ho3
 replace ho4:=hide ho4
 clear hp1 hT7 hk1 hv1 kc kc2
 have hsk : Hid (Calls Tryz.prog 25 #[.pointer (some ⟨gt,0,none⟩),.slice none 0 0] w5 fun e w' => ∃ gc,e=.returned (.pointer (some ⟨gc,0,none⟩))/\Below w5.heap.size w5 w'/\w5.heap.size<=gc/\CurAt F3 (fun j => j=gc) w' gc gt [] [] (stB.roots 0 : Int) 0) :=
   hide (seek_any w5 F3 gt gp 0 stB hT8.out.pg hT8.out.tr (by omega) [] none 0 Rd.none_ (by decide))
 go_upto_region 7 with (fail)
 go_wp2_with fail
 refine hsk.out.mono ?_
 rintro e w6 ⟨gc,rfl,hB6,hgc,hcu⟩
 have hT9 : NTree w gt gp F3 stB w6:=hT8.out.ev (Ev.of_below hB6) (hT8.out.pg.below hB6)
 have hgt5:=hT8.out.tr.blk.lt
 have hnx : Hid (Calls Tryz.prog 26 #[.pointer (some ⟨gc,0,none⟩)] w6 (NxEnd F3 (fun j => j=gc) w6 gp stB gc gt [(nd2,1)] [] celA)) :=
   hide (cnext_first w6 F3 (fun j => j=gc) gc gt gp 0 stB hT9.pg ⟨hT9.tr.blk,by
     rintro (hf | hf)
     · exact hT9.tr.out hf
     · have h9 : gt = gc := hf
       omega⟩ [] 1 hcu (by omega) nd2 load2 rfl 0 find2.symm celA rfl rfl (by decide) (by decide))
 have hB9:=hT9.bl
 have hUp:=hide hT9.up
 replace hT9:=hide hT9
 replace hcu:=hide hcu
 replace hB6:=hide hB6
 replace hB9:=hide hB9
 clear hsk
 go_wp2_with fail
 refine hnx.out.mono ?_
 rintro e w7 ⟨F4,C4,kA,kk,vA,vv,rfl,rk,rv,_,_,hP7,_,hE7⟩
 have hs1 : (convert 37 9 (.slice kA 1 kk)).run Tryz.prog w7=.ok (.string ⟨#[97]⟩) w7:=run_str_of rk
 have hs2 : (convert 37 9 (.slice vA 1 vv)).run Tryz.prog w7=.ok (.string ⟨#[49]⟩) w7:=run_str_of rv
 have hend : Hid (Below w.heap.size w w7):=hide (hB9.out.trans (Only.below hE7.only (fun k hk => by
   rcases hk with hk | hk
   · exact hUp.out k hk
   · have h9 : k = gc := hk
     have:=hT8.out.bl.size
     omega) hB9.out.size))
 replace rk:=hide rk
 replace rv:=hide rv
 replace hP7:=hide hP7
 replace hE7:=hide hE7
 clear hnx
 rw [show celA.key.length=1 from rfl,show celA.val.length=1 from rfl]
 go_wp2_with fail
 go_ret
 exact ⟨rfl,hend.out⟩
end Go.Proofs.YtiiljlmeililbaaGreatDoor
namespace Go.Proofs.YtiiljlmeililbaaGreatDoor
set_option linter.unusedVariables false
set_option maxRecDepth 100000
open Go.RowKit
structure RowsB (w : World) (A : Option Addr) (n c : Nat) (ks : List (List UInt8)) : Prop where
 len : ks.length=n
 cap : n<=c
 mem : ∃ rows : List Value,rows.length=n/\Rd (fun k => k < w.heap.size) w 1 A n rows/\∀ (i : Nat) (v : Value) (k : List UInt8),rows[i]?=some v->ks[i]?=some k->∃ (kA : Option Addr) (kc : Nat),v=Value.slice kA k.length kc/\k.length<=kc/\kc<=maxLen/\Rd (fun k => k < w.heap.size) w 1 kA k.length (bv k)
theorem Rd.belowO {w w' : World} {size n : Nat} {A : Option Addr} {xs : List Value} (h : Rd (fun k => k < w.heap.size) w size A n xs) (hB : Below w.heap.size w w') : Rd (fun k => k < w.heap.size) w' size A n xs:=h.keep fun k hk => ⟨hk,hB.block k hk⟩
theorem RowsB.at_ {w w' : World} {A : Option Addr} {n c : Nat} {ks : List (List UInt8)} (h : RowsB w A n c ks) (hB : Below w.heap.size w w') (i : Nat) (hi : i < ks.length) :
   ∃ ad kA kc,A=some ad/\w'.cell? (ad.add i)=some (.slice kA ks[i].length kc)/\ks[i].length<=kc/\kc<=maxLen/\Rd (fun k => k < w.heap.size) w' 1 kA ks[i].length (bv ks[i]):=by
 obtain ⟨rows,h1,h2,h3⟩:=h.mem
 have hir : i < rows.length:=by have:=h.len; omega
 obtain ⟨kA,kc,e,g1,g2,g3⟩:=h3 i rows[i] ks[i] (List.getElem?_eq_getElem hir) (List.getElem?_eq_getElem hi)
 obtain ⟨ad,rfl,_,hc⟩:=(h2.belowO hB).2 (by have:=h.len; omega)
 exact ⟨ad,kA,kc,rfl,by rw [<- e]; exact hc i _ (List.getElem?_eq_getElem hir),g1,g2,g3.belowO hB⟩
theorem tget_none (w : World) (F : Nat->Prop) (gt gp k : Nat) (st : PgS) (h : PgAt w F gp st) (ht : TreeAt w F gt gp k) (hk8 : k < 8) (h0 : st.roots k=0) (kA : Option Addr) (n kc : Nat) :
   Calls Tryz.prog 14 #[.pointer (some ⟨gt,0,none⟩),.slice kA n kc] w fun e w' => e=.returned (.tuple #[.slice none 0 0,.bool false,.int .i64 0])/\Below w.heap.size w w':=by
 have t1 : w.cell? ⟨gt,0,none⟩=some (.pointer (some ⟨gp,0,none⟩)):=ht.blk.cell 0
 have t2 : w.cell? ⟨gt,1,none⟩=some (.int .i64 (k : Int)):=ht.blk.cell 1
 have hrt : Hid (Calls Tryz.prog 23 #[.pointer (some ⟨gp,0,none⟩),.int .i64 (k : Int)] w.drew fun e w' => e=.returned (.int .i64 0)/\w.drew=w'):=hide (by
   have h9:=root_any w.drew F gp st h.drew k hk8
   rw [h0] at h9; exact h9)
 have hB : Hid (Below w.heap.size w w.drew):=hide (Below.refl _ w).drew
 replace h:=hide h
 replace ht:=hide ht
 go_enter Tryz.func14,Tryz.ntmps14
 go_wp2_with fail
 go_region_held3 (fun w' => w'.cell? ⟨gt,0,none⟩=some (.pointer (some ⟨gp,0,none⟩))/\w'.cell? ⟨gt,1,none⟩=some (.int .i64 (k : Int))) (first | exact ⟨t1,t2⟩) (first | (go_at_call 23; refine hrt.out.mono ?_; rintro e w3 ⟨rfl,rfl⟩))
 go_wp2_with fail
 go_loopw [7] (fun v7 wx => v7=.int .i64 0/\wx=w.drew) (fun _ _ => 0)
 case atStart => exact ⟨rfl,rfl⟩
 case round =>
   obtain ⟨rfl,rfl⟩:=hrel
   go_wp2_with fail
   go_ret3
   exact ⟨rfl,hB.out⟩
structure TrF (w0 : World) (gt gp k : Nat) (kv : List KV) (N : Nat) (F : Nat->Prop) (wx : World) : Prop where
 st : ∃ st fl pages,PgAt wx F gp st/\TreeKV st k kv pages/\Inv st fl (pages ++ [])/\st.many<=1 + 300 * N
 tr : TreeAt wx F gt gp k
 bl : Below w0.heap.size w0 wx
 up : ∀ j,F j->w0.heap.size<=j
 le : kv.length<=N
 sz : ∀ p ∈ kv,p.1.length<=120/\p.2.length<=20000
theorem TrF.lt {w0 wx : World} {gt gp k N : Nat} {kv : List KV} {F : Nat->Prop} (h : TrF w0 gt gp k kv N F wx) : ∀ j,F j->j < wx.heap.size:=by
 obtain ⟨st,fl,pages,hP,_⟩:=h.st
 exact hP.lt
theorem TrF.below {w0 w w' : World} {gt gp k N : Nat} {kv : List KV} {F : Nat->Prop} (h : TrF w0 gt gp k kv N F w) (hB : Below w.heap.size w w') : TrF w0 gt gp k kv N F w':=by
 obtain ⟨st,fl,pages,hP,hT,hI,hm⟩:=h.st
 exact ⟨⟨st,fl,pages,hP.below hB,hT,hI,hm⟩,h.tr.ev (Ev.of_below hB),h.bl.trans (hB.mono h.bl.size),h.up,h.le,h.sz⟩
theorem insKV_mem {key : KeyB} {b : List UInt8} {kv : List KV} {p : KV} (h : p ∈ insKV key b kv) : p=(key,b) \/ p ∈ kv:=by
 unfold insKV at h
 rcases List.mem_append.1 h with h | h
 · exact .inr (List.mem_filter.1 h).1
 · rcases List.mem_cons.1 h with h | h
   · exact .inl h
   · exact .inr (List.mem_filter.1 h).1
theorem lo_up_len (key : KeyB) : ∀ kv : List KV,(loKV kv key).length + (upKV kv key).length<=kv.length
 | [] => by simp [loKV,upKV]
 | p :: r => by
   have ih:=lo_up_len key r
   unfold loKV upKV at ih ⊢
   rw [List.filter_cons,List.filter_cons]
   cases h1 : ltK p.1 key with
   | true =>
     rw [ltK_asymm _ _ h1]
     simp only [if_true,List.length_cons]
     simp only [Bool.false_eq_true,if_false]
     omega
   | false =>
     cases h2 : ltK key p.1 with
     | true => simp only [Bool.false_eq_true,if_false,if_true,List.length_cons]; omega
     | false => simp only [Bool.false_eq_true,if_false,List.length_cons]; omega
theorem insKV_len (key : KeyB) (b : List UInt8) (kv : List KV) : (insKV key b kv).length<=kv.length + 1:=by
 have:=lo_up_len key kv
 unfold insKV
 simp only [List.length_append,List.length_cons]
 omega
theorem tr_put {w0 w : World} {gt gp k N : Nat} {kv : List KV} {F : Nat->Prop} (h : TrF w0 gt gp k kv N F w) (hN : N<=200) (hk8 : k < 8) (kA vA : Option Addr) (kc vc : Nat) (key b : List UInt8) (hk : MB F w kA key.length key) (hv : MB F w vA b.length b)
   (h1 : 1<=key.length) (h2 : key.length<=120) (h3 : b.length<=20000) (hvc : b.length<=vc) :
   Calls Tryz.prog 11 #[.pointer (some ⟨gt,0,none⟩),.slice kA key.length kc,.slice vA b.length vc] w fun e w' => e=.returned (.int .i64 0)/\∃ F',TrF w0 gt gp k (insKV key b kv) (N + 1) F' w'/\Ev F w F' w':=by
 obtain ⟨st,fl,pages,hP,hT,hI,hm⟩:=h.st
 have hle:=h.le
 obtain ⟨st',fl',pages',hr,hT',hI',_,hm'⟩:=put_tree hI hT key b h1 h2 h3 (by omega)
 refine (tput_any w F gt gp k st st' hP h.tr hk8 key b kA vA kc vc hk hv h1 h2 h3 hvc hI.ok hr).mono ?_
 rintro e w' ⟨rfl,F',hP',hE'⟩
 refine ⟨rfl,F',⟨⟨st',fl',pages',hP',hT',hI',by omega⟩,h.tr.ev hE',h.bl.trans (Only.below hE'.only h.up h.bl.size),fun j hj => ?_,?_,fun p hp => ?_⟩,hE'⟩
 · rcases hE'.grow j hj with h9 | h9
   · exact h.up j h9
   · exact Nat.le_trans h.bl.size h9
 · have:=insKV_len key b kv; omega
 · rcases insKV_mem hp with rfl | hp
   · exact ⟨h2,h3⟩
   · exact h.sz p hp
theorem tr_get {w0 w : World} {gt gp k N : Nat} {kv : List KV} {F : Nat->Prop} (h : TrF w0 gt gp k kv N F w) (hk8 : k < 8) (kA : Option Addr) (kc : Nat) (key : List UInt8) (hk : MB F w kA key.length key) :
   Calls Tryz.prog 14 #[.pointer (some ⟨gt,0,none⟩),.slice kA key.length kc] w fun e w' => ∃ F',TrF w0 gt gp k kv N F' w'/\Ev F w F' w'/\((key ∉ kv.map (·.1)/\e=.returned (.tuple #[.slice none 0 0,.bool false,.int .i64 0])) \/
     (∃ b vA vc,(key,b) ∈ kv/\e=.returned (.tuple #[.slice vA b.length vc,.bool true,.int .i64 0])/\MB F' w' vA b.length b/\b.length<=vc)):=by
 obtain ⟨st,fl,pages,hP,hT,hI,hm⟩:=h.st
 have hfin : ∀ F' w',PgAt w' F' gp st->Ev F w F' w'->TrF w0 gt gp k kv N F' w':=fun F' w' hP' hE' => by
   refine ⟨⟨st,fl,pages,hP',hT,hI,hm⟩,h.tr.ev hE',h.bl.trans (Only.below hE'.only h.up h.bl.size),fun j hj => ?_,h.le,h.sz⟩
   rcases hE'.grow j hj with h9 | h9
   · exact h.up j h9
   · exact Nat.le_trans h.bl.size h9
 by_cases h0 : st.roots k=0
 · have hkv : kv=[]:=by
     obtain ⟨L,P,O,hTo,hV,_⟩:=hT
     rcases hTo with ⟨_,rfl,_⟩ | ⟨hh,ht⟩
     · cases hV; rfl
     · have:=ht.has.1; omega
   refine (tget_none w F gt gp k st hP h.tr hk8 h0 kA key.length kc).mono ?_
   rintro e w' ⟨rfl,hB⟩
   exact ⟨F,hfin F w' (hP.below hB) (Ev.of_below hB),Ev.of_below hB,.inl ⟨by rw [hkv]; simp,rfl⟩⟩
 · obtain ⟨m, r, d1, d2, d3, d4, d5, d6⟩ := get_law hI hT h0 key
   refine (tgetv_any w F gt gp k st hP h.tr hk8 key kA kc hk _ m r rfl d1 d2 d4 d3).mono ?_
   rintro e w' ⟨F',hP',hE',hcase⟩
   refine ⟨F',hfin F' w' hP' hE',hE',?_⟩
   rcases hcase with ⟨hf,rfl⟩ | ⟨ht,c,b,vA,vc,hc,hvg,rfl,hmb,hle⟩
   · refine .inl ⟨fun hin => ?_, rfl⟩
     rw [d5.2 hin] at hf; cases hf
   · exact .inr ⟨b,vA,vc,d6 c b ht hc hvg,rfl,hmb,hle⟩
theorem treeKV_new (k : Nat) : TreeKV hd1 k [] []:=⟨[],[],[],.inl ⟨rfl,rfl,rfl⟩,.nil,rfl⟩
theorem hd1_okP : hd1.ok:=⟨by decide,by decide,by decide,fun k => (by decide : 0 < 1),fun no hn => by
 have h1 : no < 1:=hn.2
 have h2:=hn.1
 omega⟩
theorem inv_new : Inv hd1 [] ([] ++ []):=by
 refine ⟨hd1_okP,.nil,List.nodup_nil,fun no => ?_⟩
 constructor
 · rintro ⟨h1, h2⟩
   have : no < 1:=h2
   omega
 · intro h; cases h
def OpNew (w0 : World) (e : Ending) (w' : World) : Prop:=∃ gp F,e=.returned (.tuple #[.pointer (some ⟨gp,0,none⟩),.int .i64 0])/\PgAt w' F gp hd1/\Below w0.heap.size w0 w'/\∀ j,F j->w0.heap.size<=j
theorem open_tr (w0 wa wb : World) (gf bm : Nat) (h0 : Below w0.heap.size w0 wa) (hfs : ∀ da la,da ≠ la->FSAt wb wa.heap.size gf bm 60000 0 da la none none) (hB : Below wa.heap.size wa wb) :
   Calls Tryz.prog 7 #[.pointer (some ⟨gf,0,none⟩),.string ⟨#[120]⟩] wb (OpNew w0):=by
 have hf0:=hfs (dbN [120]) (logN [120]) (db_ne [120])
 have hf : FSAt wb 0 gf bm 60000 0 (dbN [120]) (logN [120]) none none:=⟨hf0.st,hf0.mp,hf0.ne,Nat.zero_le _,Nat.zero_le _⟩
 have hg1:=hf0.gB
 have hg2:=hf0.bB
 have hs0:=h0.size
 have hsB:=hB.size
 refine (open_new wb gf bm 60000 0 [120] hf name_d name_l (by decide) (by decide) (by omega) (by omega) (by omega)).mono ?_
 rintro e w2 ⟨gp,gm,gc0,rfl,g1,g2,hbp,him,hFr⟩
 have hb1 : Below w0.heap.size w0 wb:=h0.trans (hB.mono hs0)
 refine ⟨gp,_,rfl,pg_at hbp him,hb1.trans (Only.below hFr (fun k hk => ?_) hb1.size),fun j hj => ?_⟩
 · rcases hk with rfl | rfl | hk <;> omega
 · rcases hj with rfl | rfl <;> omega
theorem tnew_tr (w0 w2 : World) (gp k : Nat) (F : Nat->Prop) (hP : PgAt w2 F gp hd1) (hb : Below w0.heap.size w0 w2) (hF : ∀ j,F j->w0.heap.size<=j) (hk8 : k < 8) :
   Calls Tryz.prog 9 #[.pointer (some ⟨gp,0,none⟩),.int .i64 (k : Int)] w2 fun e w' => ∃ gt,e=.returned (.tuple #[.pointer (some ⟨gt,0,none⟩),.int .i64 0])/\w0.heap.size<=gt/\TrF w0 gt gp k [] 0 F w':=by
 refine (tnew_any w2 gp k hk8).mono ?_
 rintro e w' ⟨rfl,rfl⟩
 refine ⟨w2.heap.size,rfl,hb.size,⟨hd1,[],[],hP.alloc _,treeKV_new k,inv_new,by decide⟩,⟨Blk.new w2 81 _,fun hf => by have:=hP.lt _ hf; omega⟩,hb.alloc hb.size _,hF,Nat.le_refl _,fun p hp => by cases hp⟩
theorem delKV_mem {key : KeyB} {kv : List KV} {p : KV} (h : p ∈ delKV key kv) : p ∈ kv/\p.1 ≠ key:=by
 unfold delKV loKV upKV at h
 rcases List.mem_append.1 h with h | h
 · obtain ⟨h1, h2⟩ := List.mem_filter.1 h
   exact ⟨h1,fun e => by simp only [e,ltK_irrefl] at h2; cases h2⟩
 · obtain ⟨h1, h2⟩ := List.mem_filter.1 h
   exact ⟨h1,fun e => by simp only [e,ltK_irrefl] at h2; cases h2⟩
theorem delKV_len {key : KeyB} : ∀ {kv : List KV},key ∈ kv.map (·.1)->(delKV key kv).length + 1<=kv.length
 | [],h => by cases h
 | p :: r, h => by
   have h0:=lo_up_len key r
   unfold delKV
   rw [List.length_append,List.length_cons]
   unfold loKV upKV at h0 ⊢
   rw [List.filter_cons,List.filter_cons]
   by_cases e : p.1=key
   · rw [e, ltK_irrefl]
     simp only [Bool.false_eq_true,if_false]
     omega
   · have hin : key ∈ r.map (·.1):=by
       rcases List.mem_cons.1 h with h9 | h9
       · exact absurd h9.symm e
       · exact h9
     have ih:=delKV_len hin
     unfold delKV loKV upKV at ih
     rw [List.length_append] at ih
     cases h1 : ltK p.1 key with
     | true =>
       rw [ltK_asymm _ _ h1]
       simp only [if_true,Bool.false_eq_true,if_false,List.length_cons]
       omega
     | false =>
       cases h2 : ltK key p.1 with
       | true => simp only [if_true,Bool.false_eq_true,if_false,List.length_cons]; omega
       | false => simp only [Bool.false_eq_true,if_false]; omega
theorem kids_some {T : KeyB->Option KeyB->Nat->List CellP->List Nat->Prop} (hT : ∀ lo hi k l p,T lo hi k l p->l ≠ []) {cs : List CellP} {ks : List Nat} {lo : KeyB} {hi : Option KeyB} {L : List CellP} {P : List Nat} (h : Kids T cs ks lo hi L P) : L ≠ []:=by
 cases h with
 | one k _ _ _ _ h => exact hT _ _ _ _ _ h
 | more c cs k ks _ _ l p _ _ hb h hr =>
   intro e
   exact hT _ _ _ _ _ h (List.append_eq_nil_iff.1 e).1
theorem treeR_some {st : PgS} : ∀ (h m : Nat) (lo : KeyB) (hi : Option KeyB) (no : Nat) (L : List CellP) (P : List Nat),TreeR st h m lo hi no L P->7<=m->L ≠ []
 | 0, m, lo, hi, no, L, P, ht, h7 => by
   obtain ⟨n,hl,hz,⟨hf,rfl,hb⟩,_⟩:=ht
   exact cells_some h7 hz
 | h + 1, m, lo, hi, no, L, P, ht, h7 => by
   obtain ⟨n,Q,hl,hz,⟨hf,hk⟩,_⟩:=ht
   exact kids_some (fun lo hi k l p hp => treeR_some h 127 lo hi k l p hp (by omega)) hk
theorem treeKV_none {st : PgS} {k : Nat} {pages : List Nat} (h : TreeKV st k [] pages) : st.roots k=0/\pages=[]:=by
 obtain ⟨L,P,O,hTo,hV,rfl⟩:=h
 have hl:=hV.len
 obtain rfl : L=[]:=List.eq_nil_of_length_eq_zero hl.symm
 rcases hTo with ⟨h0,_,rfl⟩ | ⟨h,ht⟩
 · cases hV
   exact ⟨h0,rfl⟩
 · exact absurd rfl (treeR_some h 7 _ _ _ _ _ ht (Nat.le_refl _))
theorem frees_len {st : PgS} {fl : List Nat} (hI : Inv st fl ([] ++ [])) : fl.length=st.many - 1:=by
 have hn : fl.Nodup:=by have:=hI.nd; simpa using this
 have hm : ∀ no,no ∈ fl ↔ no ∈ List.range' 1 (st.many - 1):=fun no => by
   have h1:=hI.all no
   have h2 : st.has no ↔ (1<=no/\no < st.many):=Iff.rfl
   simp only [List.append_nil] at h1
   rw [<- h1,h2,List.mem_range'_1]
   omega
 have hp:=(List.perm_ext_iff_of_nodup hn List.nodup_range').2 hm
 have:=hp.length_eq
 rw [List.length_range'] at this
 exact this
theorem tr_del {w0 w : World} {gt gp k N : Nat} {kv : List KV} {F : Nat->Prop} (h : TrF w0 gt gp k kv N F w) (hN : N + kv.length<=200) (hk8 : k < 8) (kA : Option Addr) (kc : Nat) (key : List UInt8) (hk : MB F w kA key.length key) :
   Calls Tryz.prog 20 #[.pointer (some ⟨gt,0,none⟩),.slice kA key.length kc] w fun e w' => ∃ (F' : Nat->Prop) (kv' : List KV) (N' : Nat) (b : Bool),e=.returned (.tuple #[.bool b,.int .i64 0])/\TrF w0 gt gp k kv' N' F' w'/\Ev F w F' w'/\N' + kv'.length<=N + kv.length/\(∀ p ∈ kv',p ∈ kv)/\key ∉ kv'.map (·.1):=by
 have hB : Below w.heap.size w (w.alloc (.cells #[.pointer (some ⟨gt,0,none⟩)] 30)):=(Below.refl _ w).alloc (Nat.le_refl _) _
 have hE0 : Ev F w F (w.alloc (.cells #[.pointer (some ⟨gt,0,none⟩)] 30)):=Ev.of_below hB
 by_cases hin : key ∈ kv.map (·.1)
 · obtain ⟨st, fl, pages, hP, hT, hI, hm⟩ := h.st
   obtain ⟨st',fl',pages',hr,hT',hI',_,hm'⟩:=del_tree hI hT key hin (by omega)
   have h0 : st.roots k ≠ 0:=fun h0 => by
     obtain ⟨L,P,O,hTo,hV,_⟩:=hT
     rcases hTo with ⟨_,rfl,_⟩ | ⟨hh,ht⟩
     · cases hV; simp at hin
     · have:=ht.has.1; omega
   obtain ⟨m,r,d1,d2,d3,d4,d5,d6⟩:=get_law hI hT h0 key
   refine (tdel_yes w F gt gp k st st' hP h.tr hk8 hI.ok kA kc key hk hr ?_).mono ?_
   · refine (tgetv_any _ F gt gp k st (hP.alloc _) (h.tr.ev hE0) hk8 key kA kc (hk.ev hE0) _ m r rfl d1 d2 d4 d3).mono ?_
     rintro e w' ⟨F',hP',hE',hcase⟩
     rcases hcase with ⟨hf,rfl⟩ | ⟨ht,c,b,vA,vc,hc,hvg,rfl,hmb,hle⟩
     · rw [d5.2 hin] at hf; cases hf
     · exact ⟨⟨_,_,_,rfl⟩,F',hP',hE'⟩
   · rintro e w' ⟨rfl, F', hP', hE'⟩
     have hdl:=delKV_len hin
     refine ⟨F',delKV key kv,N + 1,true,rfl,⟨⟨st',fl',pages',hP',hT',hI',by omega⟩,h.tr.ev hE',h.bl.trans (Only.below hE'.only h.up h.bl.size),fun j hj => ?_,by have:=h.le; omega,fun p hp => h.sz p (delKV_mem hp).1⟩,hE',by omega,fun p hp => (delKV_mem hp).1,fun hc => ?_⟩
     · rcases hE'.grow j hj with h9 | h9
       · exact h.up j h9
       · exact Nat.le_trans h.bl.size h9
     · obtain ⟨p, hp, e⟩ := List.mem_map.1 hc
       exact (delKV_mem hp).2 e
 · have hg := tr_get (h.below hB) hk8 kA kc key (hk.ev hE0)
   refine (tdel_no w gt kA key.length kc (fun w' => ∃ F',TrF w0 gt gp k kv N F' w'/\Ev F w F' w') ?_).mono ?_
   · refine hg.mono ?_
     rintro e w' ⟨F',hT',hE',hcase⟩
     rcases hcase with ⟨_,rfl⟩ | ⟨b,_,_,hb,_⟩
     · exact ⟨rfl,F',hT',hE0.trans hE'⟩
     · exact absurd (List.mem_map.2 ⟨_,hb,rfl⟩) hin
   · rintro e w' ⟨rfl, F', hT', hE'⟩
     exact ⟨F',kv,N,false,rfl,hT',hE',Nat.le_refl _,fun p hp => hp,hin⟩
theorem tr_check {w0 w : World} {gt gp k N : Nat} {kv : List KV} {F : Nat->Prop} (h : TrF w0 gt gp k kv N F w) (hN : N<=200) (hk8 : k < 8) :
   Calls Tryz.prog 19 #[.pointer (some ⟨gt,0,none⟩)] w fun e w' => e=.returned (.int .i64 0)/\∃ F',TrF w0 gt gp k kv N F' w'/\Ev F w F' w':=by
 obtain ⟨st,fl,pages,hP,hT,hI,hm⟩:=h.st
 have hT0:=hT
 obtain ⟨L,P,O,hTo,hV,rfl⟩:=hT
 have hlen:=hV.len
 have hle:=h.le
 refine (check_any w F gt gp k st hP h.tr hk8 L P hTo (by omega)).mono ?_
 rintro e w' ⟨rfl,F',hP',hE'⟩
 refine ⟨rfl,F',⟨⟨st,fl,_,hP',hT0,hI,hm⟩,h.tr.ev hE',h.bl.trans (Only.below hE'.only h.up h.bl.size),fun j hj => ?_,h.le,h.sz⟩,hE'⟩
 rcases hE'.grow j hj with h9 | h9
 · exact h.up j h9
 · exact Nat.le_trans h.bl.size h9
end Go.Proofs.YtiiljlmeililbaaGreatDoor
namespace Go.Proofs.YtiiljlmeililbaaGreatDoor
set_option linter.unusedVariables false
set_option maxRecDepth 100000
open Go.RowKit Go.Maps
theorem key_of {w : World} {F : Nat->Prop} {W : World} {kA : Option Addr} {KL : Nat} {K : List UInt8} {w' : World} (hkr : Rd (fun k => k < w.heap.size) w' 1 kA KL (bv K)) (hb : Below w.heap.size w w') (hW : Below w.heap.size w W) (hF : ∀ j,F j->w.heap.size<=j) : MB F W kA KL K:=by
 have h8 : Rd (fun k => k < w.heap.size) w 1 kA KL (bv K):=hkr.keep fun j hj => ⟨hj,(hb.block j hj).symm⟩
 exact (h8.belowO hW).keep fun j hj => ⟨⟨Nat.lt_of_lt_of_le hj hW.size,fun hf => by have:=hF j hf; omega⟩,rfl⟩
def DlS (w0 : World) (gt gp : Nat) (ks : List KeyB) (i : Nat) (wx : World) : Prop:=∃ (F : Nat->Prop) (kv : List KV) (N : Nat),TrF w0 gt gp 0 kv N F wx/\N + kv.length<=160/\(∀ p ∈ kv,p.1 ∈ ks)/\∀ j (hj : j < ks.length),j < i->ks[j] ∉ kv.map (·.1)
theorem dl_end {w0 wx : World} {gt gp : Nat} {ks : List KeyB} (h : DlS w0 gt gp ks ks.length wx) : ∃ (F : Nat->Prop) (st : PgS) (fl : List Nat),PgAt wx F gp st/\TreeAt wx F gt gp 0/\st.roots 0=0/\FreeR st st.free fl/\fl.length=st.many - 1/\1<=st.many/\Below w0.heap.size w0 wx/\(∀ j,F j->w0.heap.size<=j):=by
 obtain ⟨F,kv,N,hT,_,hin,hno⟩:=h
 have hkv : kv=[]:=by
   cases kv with
   | nil => rfl
   | cons p r =>
     obtain ⟨j,hj,e⟩:=List.getElem_of_mem (hin p (.head _))
     exact absurd (List.mem_map.2 ⟨p,.head _,e.symm⟩) (hno j hj hj)
 subst hkv
 obtain ⟨st,fl,pages,hP,hTK,hI,hm⟩:=hT.st
 obtain ⟨hr,rfl⟩:=treeKV_none hTK
 exact ⟨F,st,fl,hP,hT.tr,hr,hI.fr,frees_len hI,hP.one,hT.bl,hT.up⟩
set_option maxHeartbeats 4000000 in
theorem treeEmpties_walk (w : World) (A : Option Addr) (n c T : Nat) (ks : List (List UInt8)) (hA : RowsB w A n c ks) (hc : c<=maxLen) (hT : T < 256) :
   Calls Tryz.prog 5 #[.slice A n c,.int .u8 (T : Int)] w fun e w' => e=.returned (.bool true)/\Below w.heap.size w w':=by
 have hn:=hA.cap
 have hlenK:=hA.len
 unfold maxLen at hc
 replace hA:=hide hA
 replace hlenK:=hide hlenK
 go_enter Tryz.func5,Tryz.ntmps5
 go_wp2_with fail
 refine (wakes_any w).mono ?_
 rintro e w1 ⟨rfl,hB1⟩
 replace hB1:=hide hB1
 by_cases hn1 : 80 < n
 · have l1 : decide (80 < (n : Int)) = true := decide_eq_true (by omega)
   go_wp2_with fail
   go_ret
   exact ⟨rfl,hB1.out⟩
 have l1 : decide (80 < (n : Int))=false:=decide_eq_false (by omega)
 have l1n : decide (80 < n)=false:=decide_eq_false (by omega)
 by_cases hn0 : n=0
 · have l2 : ((n : Int) == 0) = true := by rw [hn0]; rfl
   replace hn0:=hide hn0
   go_wp2_with fail
   go_ret
   exact ⟨rfl,hB1.out⟩
 have l2 : ((n : Int) == 0)=false:=by rw [beq_eq_false_iff_ne]; omega
 have hnI : (n : Int)<=80:=by omega
 have hnp : 0 < n:=by omega
 have hnc : (n : Int)<=(c : Int):=by omega
 clear hn0 hn1
 have hnew:=hide (fnew_any w1 60000 (by omega) (by omega))
 go_wp2_with fail
 go_at_call 8
 refine hnew.out.mono ?_
 rintro e w2 ⟨gf,bm,rfl,hfs,hB2⟩
 have hop:=hide (open_tr w w1 w2 gf bm hB1.out hfs hB2)
 replace hfs : Hid _:=hide hfs
 replace hB2:=hide hB2
 clear hnew
 go_wp2_with fail
 go_at_call 7
 refine hop.out.mono ?_
 rintro e w3 ⟨gp,F3,rfl,hP3,hB3,hU3⟩
 have htn:=hide (tnew_tr w w3 gp 0 F3 hP3 hB3 hU3 (by omega))
 replace hP3:=hide hP3
 replace hB3:=hide hB3
 replace hU3:=hide hU3
 clear hop
 go_wp2_with fail
 go_at_call 9
 refine htn.out.mono ?_
 rintro e w4 ⟨gt,rfl,hgt,hT4⟩
 have hst : Hid (∃ F kv,TrF w gt gp 0 kv 0 F w4/\∀ p ∈ kv,p.1 ∈ ks):=hide ⟨F3,[],hT4,fun p hp => by cases hp⟩
 replace hT4:=hide hT4
 replace hgt:=hide hgt
 clear htn
 go_wp2_with fail
 go_loopw [46] (fun v46 wx => ∃ i : Nat,v46=.int .i64 (i : Int)/\i<=n/\Hid (∃ F kv,TrF w gt gp 0 kv i F wx/\∀ p ∈ kv,p.1 ∈ ks)) (fun v46 _ => n - (intOf v46).toNat)
 case atStart => exact ⟨0,rfl,by omega,hst⟩
 case round =>
   clear hst hT4
   obtain ⟨i,rfl,hi,hS⟩:=hrel
   obtain ⟨F,kv,hTF,hin⟩:=hS.out
   clear hS
   have hbl:=hTF.bl
   by_cases hlt : i < n
   · have hlk : i < ks.length := by rw [hlenK.out]; exact hlt
     obtain ⟨ad,kA,kc,rfl,hcell,hkc,hkcm,hkr⟩:=hA.out.at_ hbl i hlk
     obtain ⟨K,hK⟩ : ∃ K,K=ks[i]:=⟨_,rfl⟩
     rw [<- hK] at hcell hkc hkr
     have hKin : K ∈ ks:=by rw [hK]; exact List.getElem_mem hlk
     obtain ⟨KL,hKL⟩ : ∃ KL,KL=K.length:=⟨_,rfl⟩
     rw [<- hKL] at hcell hkc hkr
     unfold maxLen at hkcm
     have hiI : (i : Int) < (n : Int):=by omega
     have hdone:=hide hbl
     by_cases h1 : KL < 1
     · have z1 : decide ((KL : Int) < 1) = true := decide_eq_true (by omega)
       replace hTF:=hide hTF
       replace hbl:=hide hbl
       replace hkr:=hide hkr
       replace hK:=hide hK
       replace hKL:=hide hKL
       replace hin : Hid _:=hide hin
       replace hKin:=hide hKin
       go_wp2_with fail
       go_ret
       exact ⟨rfl,hdone.out⟩
     by_cases h2 : 120 < KL
     · have z1 : decide ((KL : Int) < 1) = false := decide_eq_false (by omega)
       have z2 : decide (120 < (KL : Int))=true:=decide_eq_true (by omega)
       replace hTF:=hide hTF
       replace hbl:=hide hbl
       replace hkr:=hide hkr
       replace hK:=hide hK
       replace hKL:=hide hKL
       replace hin : Hid _:=hide hin
       replace hKin:=hide hKin
       go_wp2_with fail
       go_ret
       exact ⟨rfl,hdone.out⟩
     have z1 : decide ((KL : Int) < 1)=false:=decide_eq_false (by omega)
     have z2 : decide (120 < (KL : Int))=false:=decide_eq_false (by omega)
     have z2n : decide (120 < KL)=false:=decide_eq_false h2
     obtain ⟨V,hV⟩ : ∃ V : Nat,V=i * 40:=⟨_,rfl⟩
     have hVl : V<=3200:=by omega
     have hVI : (i : Int) * 40=(V : Int):=by omega
     have hVW : IntKind.i64.wrap ((i : Int) * 40)=(V : Int):=by rw [hVI]; exact IntWalk.i64_in _ (by omega)
     have hlb : Hid (Calls Tryz.prog 10 #[.int .i64 (V : Int),.int .u8 7] wr fun e w' => ∃ g,e=.returned (.slice (some ⟨g,0,none⟩) V V)/\OB w' wr.heap.size (.slice (some ⟨g,0,none⟩) V V) V (bytesL V 7)/\Below wr.heap.size wr w'):=hide (lbytes_any wr V 7 (by omega))
     obtain ⟨VB,hVB⟩ : ∃ VB,VB=bytesL V 7:=⟨_,rfl⟩
     have hVBl : VB.length=V:=by rw [hVB,bytesL_len]
     rw [<- hVB] at hlb
     replace hVB:=hide hVB
     replace hTF:=hide hTF
     replace hbl:=hide hbl
     replace hkr:=hide hkr
     replace hK:=hide hK
     replace hKL:=hide hKL
     replace hV:=hide hV
     replace hVI:=hide hVI
     replace hin : Hid _:=hide hin
     replace hKin:=hide hKin
     go_wp2_with fail
     go_at_call 10
     refine hlb.out.mono ?_
     rintro e w6 ⟨g,rfl,hO6,hB6⟩
     have hT6:=hTF.out.below hB6
     have hFl:=hTF.out.lt
     have hk6 : MB F w6 kA KL K:=key_of hkr.out hbl.out hT6.bl hTF.out.up
     have hvO : Rd (fun j => wr.heap.size<=j/\j < w6.heap.size) w6 1 (some ⟨g,0,none⟩) V (bv VB):=Rd.of_own hO6 fun j h1 h2 => ⟨h1,h2⟩
     have hv6 : MB F w6 (some ⟨g,0,none⟩) V VB:=hvO.keep fun j hj => ⟨⟨hj.2,fun hf => by have:=hFl j hf; omega⟩,rfl⟩
     have hpt:=hide (tr_put hT6 (by omega) (by omega) kA (some ⟨g,0,none⟩) kc V K VB (by rw [<- hKL.out]; exact hk6) (by rw [hVBl]; exact hv6) (by rw [<- hKL.out]; omega) (by rw [<- hKL.out]; omega) (by rw [hVBl]; omega) (by rw [hVBl]; exact Nat.le_refl _))
     rw [<- hKL.out,hVBl] at hpt
     replace hT6:=hide hT6
     replace hFl:=hide hFl
     replace hk6:=hide hk6
     replace hvO:=hide hvO
     replace hv6:=hide hv6
     replace hO6:=hide hO6
     replace hB6:=hide hB6
     clear hlb hVW
     go_wp2_with fail
     go_at_call 11
     refine hpt.out.mono ?_
     rintro e w7 ⟨rfl,F7,hT7,hE7⟩
     have hrel : Hid (∃ F kv,TrF w gt gp 0 kv (i + 1) F w7/\∀ p ∈ kv,p.1 ∈ ks):=hide ⟨F7,_,hT7,fun p hp => by
       rcases insKV_mem hp with rfl | hp
       · exact hKin.out
       · exact hin.out p hp⟩
     replace hT7:=hide hT7
     replace hE7:=hide hE7
     clear hpt
     go_wp2_with fail
     go_roundw
     case rel => exact ⟨i + 1,by go_num,by omega,hrel⟩
     case measure => simp only [intOf]; omega
   · obtain rfl : n = i := by omega
     have hst : Hid (DlS w gt gp ks 0 wr):=hide ⟨F,kv,n,hTF,by have:=hTF.le; omega,hin,fun j hj h => by omega⟩
     replace hTF:=hide hTF
     replace hbl:=hide hbl
     replace hin : Hid _:=hide hin
     go_wp2_with fail
     go_loopw [69] (fun v69 wx => ∃ i : Nat,v69=.int .i64 (i : Int)/\i<=n/\Hid (DlS w gt gp ks 0 wx)) (fun v69 _ => n - (intOf v69).toNat)
     case atStart => exact ⟨0,rfl,by omega,hst⟩
     case round =>
       clear hst hTF hbl hin
       obtain ⟨i,rfl,hi,hS⟩:=hrel
       by_cases hlt : i < n
       · obtain ⟨F, kv, N, hTF, hNl, hin, hno⟩ := hS.out
         clear hS
         obtain ⟨X,hX⟩ : ∃ X : Nat,X=(i * 7 + T) % n:=⟨_,rfl⟩
         have hXn : X < n:=by rw [hX]; exact Nat.mod_lt _ hnp
         have hlk : X < ks.length:=by rw [hlenK.out]; exact hXn
         have hbl:=hTF.bl
         obtain ⟨ad,kA,kc,rfl,hcell,hkc,hkcm,hkr⟩:=hA.out.at_ hbl X hlk
         obtain ⟨K,hK⟩ : ∃ K,K=ks[X]:=⟨_,rfl⟩
         rw [<- hK] at hcell hkc hkr
         obtain ⟨KL,hKL⟩ : ∃ KL,KL=K.length:=⟨_,rfl⟩
         rw [<- hKL] at hcell hkc hkr
         unfold maxLen at hkcm
         have hXI : (X : Int) < (n : Int):=by omega
         have hiI : (i : Int) < (n : Int):=by omega
         obtain ⟨S,hS7⟩ : ∃ S : Nat,S=i * 7:=⟨_,rfl⟩
         have hSI : (i : Int) * 7=(S : Int):=by omega
         have hSl : (S : Int)<=560:=by omega
         have hTI : (T : Int)<=255:=by omega
         have hSW : IntKind.i64.wrap ((i : Int) * 7)=(S : Int):=by rw [hSI]; exact IntWalk.i64_in _ (by omega)
         have hrem : ((S : Int) + (T : Int)).tmod (n : Int)=(X : Int):=by
           rw [Int.tmod_eq_emod_of_nonneg (by omega),hX,<- hS7]; simp
         have hdl:=hide (tr_del hTF (by omega) (by omega) kA kc K (by rw [<- hKL]; exact key_of hkr hbl hbl hTF.up))
         rw [<- hKL] at hdl
         replace hTF:=hide hTF
         replace hNl:=hide hNl
         replace hin : Hid _:=hide hin
         replace hno : Hid _:=hide hno
         replace hbl:=hide hbl
         replace hkr:=hide hkr
         replace hK:=hide hK
         replace hKL:=hide hKL
         replace hX:=hide hX
         replace hS7:=hide hS7
         replace hSI:=hide hSI
         go_wp2_with fail
         go_at_call 20
         refine hdl.out.mono ?_
         rintro e w6 ⟨F6,kv6,N6,b6,rfl,hT6,hE6,hN6,hm6,hk6⟩
         have hck:=hide (tr_check hT6 (by have:=hNl.out; omega) (by omega))
         replace hT6:=hide hT6
         replace hE6:=hide hE6
         replace hm6 : Hid _:=hide hm6
         replace hk6:=hide hk6
         replace hN6:=hide hN6
         clear hdl hrem hSW
         go_wp2_with fail
         go_at_call 19
         refine hck.out.mono ?_
         rintro e w7 ⟨rfl,F7,hT7,hE7⟩
         have hrel : Hid (DlS w gt gp ks 0 w7):=hide ⟨F7,kv6,N6,hT7,by have:=hN6.out; have:=hNl.out; omega,fun p hp => hin.out p (hm6.out p hp),fun j hj h => by omega⟩
         replace hT7:=hide hT7
         replace hE7:=hide hE7
         clear hck
         go_wp2_with fail
         go_roundw
         case rel => exact ⟨i + 1,by go_num,by omega,hrel⟩
         case measure => simp only [intOf]; omega
       · obtain rfl : n = i := by omega
         have hst:=hS
         go_wp2_with fail
         go_loopw [99] (fun v99 wx => ∃ i : Nat,v99=.int .i64 (i : Int)/\i<=n/\Hid (DlS w gt gp ks i wx)) (fun v99 _ => n - (intOf v99).toNat)
         case atStart => exact ⟨0,rfl,by omega,hst⟩
         case round =>
           clear hst hS
           obtain ⟨i,rfl,hi,hS⟩:=hrel
           by_cases hlt : i < n
           · obtain ⟨F, kv, N, hTF, hNl, hin, hno⟩ := hS.out
             clear hS
             have hlk : i < ks.length:=by rw [hlenK.out]; exact hlt
             have hbl:=hTF.bl
             obtain ⟨ad,kA,kc,rfl,hcell,hkc,hkcm,hkr⟩:=hA.out.at_ hbl i hlk
             obtain ⟨K,hK⟩ : ∃ K,K=ks[i]:=⟨_,rfl⟩
             rw [<- hK] at hcell hkc hkr
             obtain ⟨KL,hKL⟩ : ∃ KL,KL=K.length:=⟨_,rfl⟩
             rw [<- hKL] at hcell hkc hkr
             unfold maxLen at hkcm
             have hiI : (i : Int) < (n : Int):=by omega
             have hdl:=hide (tr_del hTF (by omega) (by omega) kA kc K (by rw [<- hKL]; exact key_of hkr hbl hbl hTF.up))
             rw [<- hKL] at hdl
             replace hTF:=hide hTF
             replace hNl:=hide hNl
             replace hin : Hid _:=hide hin
             replace hno : Hid _:=hide hno
             replace hbl:=hide hbl
             replace hkr:=hide hkr
             replace hK:=hide hK
             replace hKL:=hide hKL
             go_wp2_with fail
             go_at_call 20
             refine hdl.out.mono ?_
             rintro e w6 ⟨F6,kv6,N6,b6,rfl,hT6,hE6,hN6,hm6,hk6⟩
             have hrel : Hid (DlS w gt gp ks (i + 1) w6):=hide ⟨F6,kv6,N6,hT6,by have:=hNl.out; omega,fun p hp => hin.out p (hm6 p hp),fun j hj h => by
               rcases Nat.lt_or_ge j i with h9 | h9
               · intro hc
                 obtain ⟨p,hp,e⟩:=List.mem_map.1 hc
                 exact hno.out j hj h9 (List.mem_map.2 ⟨p,hm6 p hp,e⟩)
               · obtain rfl : j = i := by omega
                 rw [<- hK.out]; exact hk6⟩
             replace hT6:=hide hT6
             replace hE6:=hide hE6
             replace hm6 : Hid _:=hide hm6
             replace hk6:=hide hk6
             replace hN6:=hide hN6
             clear hdl
             go_wp2_with fail
             go_roundw
             case rel => exact ⟨i + 1,by go_num,by omega,hrel⟩
             case measure => simp only [intOf]; omega
           · obtain rfl : n = i := by omega
             obtain ⟨F,st,fl,hP,ht,hr0,hfr,hfl,hone,hbl,hup⟩:=dl_end (ks:=ks) (by rw [hlenK.out]; exact hS.out)
             clear hS
             have hfs2:=hide (frees_any wr F gp st hP fl hfr (by omega))
             obtain ⟨NF,hNF⟩ : ∃ NF,NF=fl.length:=⟨_,rfl⟩
             rw [<- hNF] at hfs2
             replace hNF:=hide hNF
             replace hP:=hide hP
             replace ht:=hide ht
             replace hr0:=hide hr0
             replace hfr:=hide hfr
             replace hfl:=hide hfl
             replace hbl:=hide hbl
             replace hup : Hid _:=hide hup
             replace hone:=hide hone
             go_wp2_with fail
             go_at_call 21
             refine hfs2.out.mono ?_
             rintro e w6 ⟨A6,c6,F6,rfl,hP6,hE6⟩
             have hht:=hide (height_any w6 F6 gt gp 0 st hP6 (ht.out.ev hE6) (by omega) [] (by rw [hr0.out]; rfl) .nil (by simp))
             replace hP6:=hide hP6
             replace hE6:=hide hE6
             clear hfs2
             go_wp2_with fail
             go_at_call 22
             refine hht.out.mono ?_
             rintro e w7 ⟨rfl,F7,hP7,hE7⟩
             have hrt:=hide (root_any w7 F7 gp st hP7 0 (by omega))
             rw [hr0.out] at hrt
             have hmn:=hide (many_any w7 F7 gp st hP7)
             obtain ⟨M,hM⟩ : ∃ M,M=st.many:=⟨_,rfl⟩
             rw [<- hM] at hmn
             have hMl:=hP7.most
             have hMe : (NF : Int)=(M : Int) - 1:=by have:=hNF.out; have:=hfl.out; have:=hone.out; omega
             have hMI : (M : Int)<=65536:=by omega
             have hMb : ((NF : Int) == (M : Int) - 1)=true:=by rw [hMe]; exact beq_self_eq_true _
             have hdone : Hid (Below w.heap.size w w7):=hide (hbl.out.trans (Only.below (hE6.out.trans hE7).only hup.out hbl.out.size))
             replace hP7:=hide hP7
             replace hE7:=hide hE7
             replace hM:=hide hM
             replace hMl:=hide hMl
             replace hMe:=hide hMe
             clear hht
             go_wp2_with fail
             go_at_call 23
             refine hrt.out.mono ?_
             rintro e w8 ⟨rfl,rfl⟩
             clear hrt
             go_wp2_with fail
             go_at_call 24
             refine hmn.out.mono ?_
             rintro e w9 ⟨rfl,rfl⟩
             clear hmn
             go_wp2_with fail
             go_ret
             exact ⟨rfl,hdone.out⟩
theorem treeEmpties_true (w : World) (A : Option Addr) (n c : Nat) (ks : List (List UInt8)) (hA : RowsB w A n c ks) (hc : c<=maxLen) (x : Int) (wx : (Lit.int .u8 x).wf=true) :
   Calls Tryz.prog 5 #[.slice A n c,.int .u8 x] w fun e w' => e=.returned (.bool true)/\Below w.heap.size w w':=by
 simp [Lit.wf,IntKind.min,IntKind.max,IntKind.signed,IntKind.bits] at wx
 obtain ⟨T,rfl⟩ : ∃ T : Nat,x=(T : Int):=⟨x.toNat,by omega⟩
 exact treeEmpties_walk w A n c T ks hA hc (by omega)
end Go.Proofs.YtiiljlmeililbaaGreatDoor
