/-
  Contract of inquestlaw19.wakes.
-/
import Derived.Test.YtiiljlmeililbaaGreatDoorBoGr44
import Derived.Test.YtiiljlmeililbaaGreatDoorBoGr28
import Derived.Test.YtiiljlmeililbaaGreatDoorBoGr27
import Derived.Lib.SlBytesConst
import Derived.Test.YtiiljlmeililbaaGreatDoorBoGr32
import Derived.Test.YtiiljlmeililbaaGreatDoorBoGr31
import Derived.Test.YtiiljlmeililbaaGreatDoorBoGr34
import Derived.Test.YtiiljlmeililbaaGreatDoorBoGr3
import Derived.Test.YtiiljlmeililbaaGreatDoorBoGr30
import Derived.Test.YtiiljlmeililbaaGreatDoorBoGr29
namespace Go.Proofs.YtiiljlmeililbaaGreatDoor
set_option linter.unusedVariables false
set_option maxRecDepth 100000
open Go.RowKit Go.Maps
structure NTree (w : World) (gt gp : Nat) (F : Nat->Prop) (st : PgS) (w' : World) : Prop where
 pg : PgAt w' F gp st
 tr : TreeAt w' F gt gp 0
 bl : Below w.heap.size w w'
 up : ∀ k,F k->w.heap.size<=k
theorem NTree.alloc {w w' : World} {gt gp : Nat} {F : Nat->Prop} {st : PgS} (h : NTree w gt gp F st w') (o : Obj) : NTree w gt gp F st (w'.alloc o) :=
 ⟨h.pg.alloc o,h.tr.ev ((Ev.refl F w').alloc_ o),h.bl.alloc h.bl.size o,h.up⟩
theorem NTree.ev {w w' w'' : World} {gt gp : Nat} {F F' : Nat->Prop} {st st' : PgS} (h : NTree w gt gp F st w') (he : Ev F w' F' w'') (hp : PgAt w'' F' gp st') : NTree w gt gp F' st' w'' :=
 ⟨hp,h.tr.ev he,h.bl.trans (Only.below he.only h.up h.bl.size),fun k hk => by
   rcases he.grow k hk with h1 | h1
   · exact h.up k h1
   · have:=h.bl.size; omega⟩
theorem mb_new (w : World) (F : Nat->Prop) (hF : ∀ k,F k->k < w.heap.size) (l : List UInt8) (fr : Nat × Nat) (w' : World) (hB : Below (w.heap.size + 1) (w.alloc (.cells (bv l).toArray 5 fr)) w') : MB F w' (some ⟨w.heap.size,0,none⟩) l.length l:=by
 have hz : (w.alloc (.cells (bv l).toArray 5 fr)).heap.size=w.heap.size + 1:=World.size_alloc _ _
 have hs:=hB.size
 refine ⟨by simp [bv],fun _ => ⟨_,rfl,⟨by show w.heap.size < _; omega,fun hf => by have h9 : w.heap.size < w.heap.size:=hF _ hf; omega⟩,fun j u hj => ?_⟩⟩
 rw [show (⟨w.heap.size,0,none⟩ : Addr).add j=⟨w.heap.size,0 + j,none⟩ from Addr.add_mid _ _ _,Nat.zero_add]
 rw [hB.cell (p:=⟨w.heap.size,j,none⟩) (by show w.heap.size < _; omega)]
 rw [cell_of_row _ w.heap.size j (bv l).toArray 5 fr (heap_alloc_new w _)]
 simpa using hj
set_option maxHeartbeats 1000000 in
theorem wakes_any (w : World) : Calls Tryz.prog 6 #[] w fun e w' => e=.returned (.bool true)/\Below w.heap.size w w':=by
 have hnew : Hid (Calls Tryz.prog 8 #[.int .i64 1000] w (FNewRet w 1000)):=hide (fnew_any w 1000 (by omega) (by omega))
 have kc:=fun (wx : World) (C : Array Value) (n c : Nat) => Lib.run_convert_bytes_const (P:=Tryz.prog) wx 37 5 C n c Tryz.underlying37 Tryz.underlying5
 go_enter Tryz.func6,Tryz.ntmps6
 go_wp2_with fail
 refine hnew.out.mono ?_
 rintro e w1 ⟨gf,bm,rfl,hfs,hB1⟩
 have hf0:=hfs (dbN [120]) (logN [120]) (db_ne [120])
 have hf : FSAt w1 0 gf bm 1000 0 (dbN [120]) (logN [120]) none none:=⟨hf0.st,hf0.mp,hf0.ne,Nat.zero_le _,Nat.zero_le _⟩
 have hg1:=hf0.gB
 have hg2:=hf0.bB
 have hop : Hid (Calls Tryz.prog 7 #[.pointer (some ⟨gf,0,none⟩),.string ⟨#[120]⟩] w1 (OpRet w1 gf bm [120])):=hide (open_new w1 gf bm 1000 0 [120] hf name_d name_l (by decide) (by decide) (by omega) (by omega) (by omega))
 replace hfs:=hide hfs
 replace hf0:=hide hf0
 replace hf:=hide hf
 replace hB1:=hide hB1
 clear hnew
 go_wp2_with fail
 refine hop.out.mono ?_
 rintro e w2 ⟨gp,gm,gc0,rfl,g1,g2,hbp,him,hFr⟩
 have hP2:=pg_at hbp him
 obtain ⟨F,hF⟩ : ∃ F : Nat->Prop,F=(fun k => k=gp \/ k=gm):=⟨_,rfl⟩
 rw [<- hF] at hP2
 have hFB : ∀ k,F k->w.heap.size<=k:=fun k hk => by
   have:=hB1.out.size
   rw [hF] at hk
   rcases hk with rfl | rfl <;> omega
 have hB2 : Below w.heap.size w w2:=hB1.out.trans (Only.below hFr (fun k hk => by
   have:=hB1.out.size
   rcases hk with rfl | rfl | hk <;> omega) hB1.out.size)
 have hO3 : Below w2.heap.size w2 (w2.alloc (.cells #[.pointer (some ⟨gp,0,none⟩),.int .i64 0] 81)):=(Below.refl _ _).alloc (Nat.le_refl _) _
 have htn : Hid (Calls Tryz.prog 9 #[.pointer (some ⟨gp,0,none⟩),.int .i64 0] w2 fun e w' => e=.returned (.tuple #[.pointer (some ⟨w2.heap.size,0,none⟩),.int .i64 0])/\w'=w2.alloc (.cells #[.pointer (some ⟨gp,0,none⟩),.int .i64 0] 81)):=hide (tnew_any w2 gp 0 (by omega))
 have kc2 : ∀ (wx : World) (o : Obj) (C : Array Value) (n c : Nat),(convert 37 37 (.slice (some ⟨wx.heap.size + 1,0,none⟩) n c)).run Tryz.prog ((wx.alloc o).alloc (.cells C 5))=.ok (.slice (some ⟨wx.heap.size + 1,0,none⟩) n c) ((wx.alloc o).alloc (.cells C 5 (C.size,C.size + 1))):=fun wx o C n c => by
   have:=kc (wx.alloc o) C n c
   rw [World.size_alloc] at this
   exact this
 have hT3 : ∀ W,W=w2.alloc (.cells #[.pointer (some ⟨gp,0,none⟩),.int .i64 0] 81)->NTree w w2.heap.size gp F hd1 W:=fun W hW => by
   rw [hW]
   exact ⟨hP2.alloc _,⟨Blk.new w2 81 _,fun hf => by have:=hP2.lt _ hf; omega⟩,hB2.trans (hO3.mono hB2.size),hFB⟩
 obtain ⟨gt,hgt⟩ : ∃ gt,gt=w2.heap.size:=⟨_,rfl⟩
 rw [<- hgt] at htn hT3
 replace hT3:=hide hT3
 replace hB2:=hide hB2
 replace hO3:=hide hO3
 replace hP2:=hide hP2
 replace hbp:=hide hbp
 replace him:=hide him
 replace hFr:=hide hFr
 replace hF:=hide hF
 replace hFB:=hide hFB
 replace hgt:=hide hgt
 clear hop
 go_wp2_with fail
 refine htn.out.mono ?_
 rintro e w3 ⟨rfl,hw3⟩
 have hT:=hide (hT3.out w3 hw3)
 clear htn hw3 hT3
 obtain ⟨o1,ho1⟩ : ∃ o1,o1=Obj.cells (bv [98]).toArray 5 (1,2):=⟨_,rfl⟩
 obtain ⟨o2,ho2⟩ : ∃ o2,o2=Obj.cells (bv [50]).toArray 5 (1,2):=⟨_,rfl⟩
 have hT5:=(hT.out.alloc o1).alloc o2
 have hz1 : (w3.alloc o1).heap.size=w3.heap.size + 1:=World.size_alloc _ _
 have hk1 : MB F ((w3.alloc o1).alloc o2) (some ⟨w3.heap.size,0,none⟩) 1 [98]:=by
   rw [ho1]
   exact mb_new w3 F hT.out.pg.lt [98] (1,2) _ ((Below.refl _ _).alloc (by rw [<- ho1,hz1]; exact Nat.le_refl _) _)
 have hv1 : MB F ((w3.alloc o1).alloc o2) (some ⟨w3.heap.size + 1,0,none⟩) 1 [50]:=by
   have:=mb_new (w3.alloc o1) F (hT.out.alloc o1).pg.lt [50] (1,2) ((w3.alloc o1).alloc o2) (by rw [ho2]; exact Below.refl _ _)
   rw [hz1] at this
   exact this
 have hp1 : Hid (∀ W,W=(w3.alloc o1).alloc o2->Calls Tryz.prog 11 #[.pointer (some ⟨gt,0,none⟩),.slice (some ⟨w3.heap.size,0,none⟩) 1 1,.slice (some ⟨w3.heap.size + 1,0,none⟩) 1 1] W (PgEnd F W gp stA (.int .i64 0))):=hide fun W hW => by
   rw [hW]
   exact put_first ((w3.alloc o1).alloc o2) F gt gp 0 hd1 hT5.pg hT5.tr (by omega) [98] [50] _ _ 1 1 hk1 hv1 (by decide) (by decide) (by decide) rfl al1 (by decide) save1 (by decide)
 replace hT5:=hide hT5
 replace hk1:=hide hk1
 replace hv1:=hide hv1
 clear hz1
 go_upto_region 5 with (fail)
 go_wp2_with fail
 refine (hp1.out _ (by rw [ho1,ho2]; rfl)).mono ?_
 rintro e w4 ⟨rfl,F2,hP4,hE4⟩
 have hT6:=hide (hT5.out.ev (by rw [ho1,ho2]; exact hE4) hP4)
 replace hE4:=hide hE4
 replace hP4:=hide hP4
 replace ho1:=hide ho1
 replace ho2:=hide ho2
 clear hp1 hT5 hk1 hv1
 obtain ⟨o3,ho3⟩ : ∃ o3,o3=Obj.cells (bv [97]).toArray 5 (1,2):=⟨_,rfl⟩
 obtain ⟨o4,ho4⟩ : ∃ o4,o4=Obj.cells (bv [49]).toArray 5 (1,2):=⟨_,rfl⟩
 have hT7:=(hT6.out.alloc o3).alloc o4
 have hz1 : (w4.alloc o3).heap.size=w4.heap.size + 1:=World.size_alloc _ _
 have hk1 : MB F2 ((w4.alloc o3).alloc o4) (some ⟨w4.heap.size,0,none⟩) 1 [97]:=by
   rw [ho3]
   exact mb_new w4 F2 hT6.out.pg.lt [97] (1,2) _ ((Below.refl _ _).alloc (by rw [<- ho3,hz1]; exact Nat.le_refl _) _)
 have hv1 : MB F2 ((w4.alloc o3).alloc o4) (some ⟨w4.heap.size + 1,0,none⟩) 1 [49]:=by
   have:=mb_new (w4.alloc o3) F2 (hT6.out.alloc o3).pg.lt [49] (1,2) ((w4.alloc o3).alloc o4) (by rw [ho4]; exact Below.refl _ _)
   rw [hz1] at this
   exact this
 have hp1 : Hid (∀ W,W=(w4.alloc o3).alloc o4->Calls Tryz.prog 11 #[.pointer (some ⟨gt,0,none⟩),.slice (some ⟨w4.heap.size,0,none⟩) 1 1,.slice (some ⟨w4.heap.size + 1,0,none⟩) 1 1] W (PgEnd F2 W gp stB (.int .i64 0))):=hide fun W hW => by
   rw [hW]
   exact put_more ((w4.alloc o3).alloc o4) F2 gt gp 0 stA hT7.pg hT7.tr (by omega) [97] [49] _ _ 1 1 hk1 hv1 (by decide) (by decide) (by decide) 1 root1 (by decide) nd1 nd2 load1 rfl (by rw [find1]) ins1 save2
 replace hT7:=hide hT7
 replace hk1:=hide hk1
 replace hv1:=hide hv1
 clear hz1
 go_wp2_with fail
 refine (hp1.out _ (by rw [ho3,ho4]; rfl)).mono ?_
 rintro e w5 ⟨rfl,F3,hP5,hE5⟩
 have hT8:=hide (hT7.out.ev (by rw [ho3,ho4]; exact hE5) hP5)
 replace hE5:=hide hE5
 replace hP5:=hide hP5
 replace ho3:=hide ho3
 replace ho4:=hide ho4
 clear hp1 hT7 hk1 hv1 kc kc2
 have hsk : Hid (Calls Tryz.prog 25 #[.pointer (some ⟨gt,0,none⟩),.slice none 0 0] w5 fun e w' => ∃ gc,e=.returned (.pointer (some ⟨gc,0,none⟩))/\Below w5.heap.size w5 w'/\w5.heap.size<=gc/\CurAt F3 (fun j => j=gc) w' gc gt [] [] (stB.roots 0 : Int) 0) :=
   hide (seek_any w5 F3 gt gp 0 stB hT8.out.pg hT8.out.tr (by omega) [] none 0 Rd.none_ (by decide))
 go_upto_region 7 with (fail)
 go_wp2_with fail
 refine hsk.out.mono ?_
 rintro e w6 ⟨gc,rfl,hB6,hgc,hcu⟩
 have hT9 : NTree w gt gp F3 stB w6:=hT8.out.ev (Ev.of_below hB6) (hT8.out.pg.below hB6)
 have hgt5:=hT8.out.tr.blk.lt
 have hnx : Hid (Calls Tryz.prog 26 #[.pointer (some ⟨gc,0,none⟩)] w6 (NxEnd F3 (fun j => j=gc) w6 gp stB gc gt [(nd2,1)] [] celA)) :=
   hide (cnext_first w6 F3 (fun j => j=gc) gc gt gp 0 stB hT9.pg ⟨hT9.tr.blk,by
     rintro (hf | hf)
     · exact hT9.tr.out hf
     · have h9 : gt = gc := hf
       omega⟩ [] 1 hcu (by omega) nd2 load2 rfl 0 find2.symm celA rfl rfl (by decide) (by decide))
 have hB9:=hT9.bl
 have hUp:=hide hT9.up
 replace hT9:=hide hT9
 replace hcu:=hide hcu
 replace hB6:=hide hB6
 replace hB9:=hide hB9
 clear hsk
 go_wp2_with fail
 refine hnx.out.mono ?_
 rintro e w7 ⟨F4,C4,kA,kk,vA,vv,rfl,rk,rv,_,_,hP7,_,hE7⟩
 have hs1 : (convert 37 9 (.slice kA 1 kk)).run Tryz.prog w7=.ok (.string ⟨#[97]⟩) w7:=run_str_of rk
 have hs2 : (convert 37 9 (.slice vA 1 vv)).run Tryz.prog w7=.ok (.string ⟨#[49]⟩) w7:=run_str_of rv
 have hend : Hid (Below w.heap.size w w7):=hide (hB9.out.trans (Only.below hE7.only (fun k hk => by
   rcases hk with hk | hk
   · exact hUp.out k hk
   · have h9 : k = gc := hk
     have:=hT8.out.bl.size
     omega) hB9.out.size))
 replace rk:=hide rk
 replace rv:=hide rv
 replace hP7:=hide hP7
 replace hE7:=hide hE7
 clear hnx
 rw [show celA.key.length=1 from rfl,show celA.val.length=1 from rfl]
 go_wp2_with fail
 go_ret
 exact ⟨rfl,hend.out⟩
end Go.Proofs.YtiiljlmeililbaaGreatDoor
namespace Go.Proofs.YtiiljlmeililbaaGreatDoor
set_option linter.unusedVariables false
set_option maxRecDepth 100000
open Go.RowKit
structure RowsB (w : World) (A : Option Addr) (n c : Nat) (ks : List (List UInt8)) : Prop where
 len : ks.length=n
 cap : n<=c
 mem : ∃ rows : List Value,rows.length=n/\Rd (fun k => k < w.heap.size) w 1 A n rows/\∀ (i : Nat) (v : Value) (k : List UInt8),rows[i]?=some v->ks[i]?=some k->∃ (kA : Option Addr) (kc : Nat),v=Value.slice kA k.length kc/\k.length<=kc/\kc<=maxLen/\Rd (fun k => k < w.heap.size) w 1 kA k.length (bv k)
theorem Rd.belowO {w w' : World} {size n : Nat} {A : Option Addr} {xs : List Value} (h : Rd (fun k => k < w.heap.size) w size A n xs) (hB : Below w.heap.size w w') : Rd (fun k => k < w.heap.size) w' size A n xs:=h.keep fun k hk => ⟨hk,hB.block k hk⟩
theorem RowsB.at_ {w w' : World} {A : Option Addr} {n c : Nat} {ks : List (List UInt8)} (h : RowsB w A n c ks) (hB : Below w.heap.size w w') (i : Nat) (hi : i < ks.length) :
   ∃ ad kA kc,A=some ad/\w'.cell? (ad.add i)=some (.slice kA ks[i].length kc)/\ks[i].length<=kc/\kc<=maxLen/\Rd (fun k => k < w.heap.size) w' 1 kA ks[i].length (bv ks[i]):=by
 obtain ⟨rows,h1,h2,h3⟩:=h.mem
 have hir : i < rows.length:=by have:=h.len; omega
 obtain ⟨kA,kc,e,g1,g2,g3⟩:=h3 i rows[i] ks[i] (List.getElem?_eq_getElem hir) (List.getElem?_eq_getElem hi)
 obtain ⟨ad,rfl,_,hc⟩:=(h2.belowO hB).2 (by have:=h.len; omega)
 exact ⟨ad,kA,kc,rfl,by rw [<- e]; exact hc i _ (List.getElem?_eq_getElem hir),g1,g2,g3.belowO hB⟩
structure TrF (w0 : World) (gt gp k : Nat) (kv : List KV) (N : Nat) (F : Nat->Prop) (wx : World) : Prop where
 st : ∃ st fl pages,PgAt wx F gp st/\TreeKV st k kv pages/\Inv st fl (pages ++ [])/\st.many<=1 + 300 * N
 tr : TreeAt wx F gt gp k
 bl : Below w0.heap.size w0 wx
 up : ∀ j,F j->w0.heap.size<=j
 le : kv.length<=N
 sz : ∀ p ∈ kv,p.1.length<=120/\p.2.length<=20000
theorem TrF.lt {w0 wx : World} {gt gp k N : Nat} {kv : List KV} {F : Nat->Prop} (h : TrF w0 gt gp k kv N F wx) : ∀ j,F j->j < wx.heap.size:=by
 obtain ⟨st,fl,pages,hP,_⟩:=h.st
 exact hP.lt
theorem TrF.rise {w0 wx : World} {gt gp k N : Nat} {kv : List KV} {F : Nat->Prop} (h : TrF w0 gt gp k kv N F wx) : RiseK kv:=by
 obtain ⟨st,fl,pages,_,hT,_⟩:=h.st
 exact hT.rise
theorem TrF.below {w0 w w' : World} {gt gp k N : Nat} {kv : List KV} {F : Nat->Prop} (h : TrF w0 gt gp k kv N F w) (hB : Below w.heap.size w w') : TrF w0 gt gp k kv N F w':=by
 obtain ⟨st,fl,pages,hP,hT,hI,hm⟩:=h.st
 exact ⟨⟨st,fl,pages,hP.below hB,hT,hI,hm⟩,h.tr.ev (Ev.of_below hB),h.bl.trans (hB.mono h.bl.size),h.up,h.le,h.sz⟩
theorem insKV_mem {key : KeyB} {b : List UInt8} {kv : List KV} {p : KV} (h : p ∈ insKV key b kv) : p=(key,b) \/ p ∈ kv:=by
 unfold insKV at h
 rcases List.mem_append.1 h with h | h
 · exact .inr (List.mem_filter.1 h).1
 · rcases List.mem_cons.1 h with h | h
   · exact .inl h
   · exact .inr (List.mem_filter.1 h).1
theorem lo_up_len (key : KeyB) : ∀ kv : List KV,(loKV kv key).length + (upKV kv key).length<=kv.length
 | [] => by simp [loKV,upKV]
 | p :: r => by
   have ih:=lo_up_len key r
   unfold loKV upKV at ih ⊢
   rw [List.filter_cons,List.filter_cons]
   cases h1 : ltK p.1 key with
   | true =>
     rw [ltK_asymm _ _ h1]
     simp only [if_true,List.length_cons]
     simp only [Bool.false_eq_true,if_false]
     omega
   | false =>
     cases h2 : ltK key p.1 with
     | true => simp only [Bool.false_eq_true,if_false,if_true,List.length_cons]; omega
     | false => simp only [Bool.false_eq_true,if_false,List.length_cons]; omega
theorem insKV_len (key : KeyB) (b : List UInt8) (kv : List KV) : (insKV key b kv).length<=kv.length + 1:=by
 have:=lo_up_len key kv
 unfold insKV
 simp only [List.length_append,List.length_cons]
 omega
theorem tr_put {w0 w : World} {gt gp k N : Nat} {kv : List KV} {F : Nat->Prop} (h : TrF w0 gt gp k kv N F w) (hN : N<=200) (hk8 : k < 8) (kA vA : Option Addr) (kc vc : Nat) (key b : List UInt8) (hk : MB F w kA key.length key) (hv : MB F w vA b.length b)
   (h1 : 1<=key.length) (h2 : key.length<=120) (h3 : b.length<=20000) (hvc : b.length<=vc) :
   Calls Tryz.prog 11 #[.pointer (some ⟨gt,0,none⟩),.slice kA key.length kc,.slice vA b.length vc] w fun e w' => e=.returned (.int .i64 0)/\∃ F',TrF w0 gt gp k (insKV key b kv) (N + 1) F' w'/\Ev F w F' w':=by
 obtain ⟨st,fl,pages,hP,hT,hI,hm⟩:=h.st
 have hle:=h.le
 obtain ⟨st',fl',pages',hr,hT',hI',_,hm'⟩:=put_tree hI hT key b h1 h2 h3 (by omega)
 refine (tput_any w F gt gp k st st' hP h.tr hk8 key b kA vA kc vc hk hv h1 h2 h3 hvc hI.ok hr).mono ?_
 rintro e w' ⟨rfl,F',hP',hE'⟩
 refine ⟨rfl,F',⟨⟨st',fl',pages',hP',hT',hI',by omega⟩,h.tr.ev hE',h.bl.trans (Only.below hE'.only h.up h.bl.size),fun j hj => ?_,?_,fun p hp => ?_⟩,hE'⟩
 · rcases hE'.grow j hj with h9 | h9
   · exact h.up j h9
   · exact Nat.le_trans h.bl.size h9
 · have:=insKV_len key b kv; omega
 · rcases insKV_mem hp with rfl | hp
   · exact ⟨h2,h3⟩
   · exact h.sz p hp
theorem curL_few {st : PgS} {k : Nat} {L : List CellP} {P : List Nat} (key : KeyB) (h : TreeOf st k L P) (hL : L.length<=1000000) : CurL st key [] (st.roots k : Int) (L.filter (geKey key)):=by
 rcases h with ⟨h0,rfl,_⟩ | ⟨h,ht⟩
 · exact .inr (.inl ⟨by rw [h0]; rfl,rfl,rfl⟩)
 · refine .inr (.inr ⟨_, h, L, P, rfl, rfl, ?_, ht, rfl⟩)
   have h1:=ht.height (Nat.le_refl _)
   rcases Nat.lt_or_ge h 20 with h2 | h2
   · omega
   · have h3 := Nat.pow_le_pow_right (n := 2) (by decide) h2
     have h4 : (2 : Nat) ^ 20=1048576:=by decide
     omega
theorem tr_all {w0 w : World} {gt gp k N : Nat} {kv : List KV} {F : Nat->Prop} (h : TrF w0 gt gp k kv N F w) (hN : N<=200) (hk8 : k < 8) (kA : Option Addr) (kc : Nat) (key : List UInt8) (hk : MB F w kA key.length key) (hkl : key.length<=100000) :
   Calls Tryz.prog 13 #[.pointer (some ⟨gt,0,none⟩),.slice kA key.length kc] w fun e w' => ∃ F' A n c,e=.returned (.tuple #[.slice A n c,.int .i64 0])/\n=(fromK key kv).length/\n<=c/\TrF w0 gt gp k kv N F' w'/\Ev F w F' w'/\PairsAt F' w' A (fromK key kv):=by
 have hrise:=h.rise
 obtain ⟨st,fl,pages,hP,hT,hI,hm⟩:=h.st
 have hT0:=hT
 obtain ⟨L,P,O,hTo,hV,rfl⟩:=hT
 have hlen:=hV.len
 have hle:=h.le
 have hcl : CurL st key [] (st.roots k : Int) (L.filter (geKey key)):=curL_few key hTo (by omega)
 obtain ⟨O',hVf⟩:=hV.filter (key:=key)
 rw [<- fromK_eq key hrise] at hVf
 have hVG : ValsG st (L.filter (geKey key)) (fromK key kv):=hVf.valsG hI.ok.free (fun c hc => hTo.cells c (List.mem_filter.1 hc).1) (fun p hp => by
   have h9 : p ∈ kv:=by unfold fromK at hp; exact List.mem_of_mem_drop hp
   have:=(h.sz p h9).2; omega)
 have hfl : (fromK key kv).length<=kv.length:=by unfold fromK; rw [List.length_drop]; omega
 refine (lall_any w F gt gp k st hP h.tr hk8 key kA kc hk hkl _ _ hcl hVG (by omega)).mono ?_
 rintro e w' ⟨F',A,n,c,rfl,hn,hnc,hP',hE',hp⟩
 refine ⟨F',A,n,c,rfl,hn,hnc,⟨⟨st,fl,_,hP',hT0,hI,hm⟩,h.tr.ev hE',h.bl.trans (Only.below hE'.only h.up h.bl.size),fun j hj => ?_,h.le,h.sz⟩,hE',hp⟩
 rcases hE'.grow j hj with h9 | h9
 · exact h.up j h9
 · exact Nat.le_trans h.bl.size h9
theorem treeKV_new (k : Nat) : TreeKV hd1 k [] []:=⟨[],[],[],.inl ⟨rfl,rfl,rfl⟩,.nil,rfl⟩
theorem hd1_okP : hd1.ok:=⟨by decide,by decide,by decide,fun k => (by decide : 0 < 1),fun no hn => by
 have h1 : no < 1:=hn.2
 have h2:=hn.1
 omega⟩
theorem inv_new : Inv hd1 [] ([] ++ []):=by
 refine ⟨hd1_okP,.nil,List.nodup_nil,fun no => ?_⟩
 constructor
 · rintro ⟨h1, h2⟩
   have : no < 1:=h2
   omega
 · intro h; cases h
def OpNew (w0 : World) (e : Ending) (w' : World) : Prop:=∃ gp F,e=.returned (.tuple #[.pointer (some ⟨gp,0,none⟩),.int .i64 0])/\PgAt w' F gp hd1/\Below w0.heap.size w0 w'/\∀ j,F j->w0.heap.size<=j
theorem open_tr (w0 wa wb : World) (gf bm : Nat) (h0 : Below w0.heap.size w0 wa) (hfs : ∀ da la,da ≠ la->FSAt wb wa.heap.size gf bm 60000 0 da la none none) (hB : Below wa.heap.size wa wb) :
   Calls Tryz.prog 7 #[.pointer (some ⟨gf,0,none⟩),.string ⟨#[120]⟩] wb (OpNew w0):=by
 have hf0:=hfs (dbN [120]) (logN [120]) (db_ne [120])
 have hf : FSAt wb 0 gf bm 60000 0 (dbN [120]) (logN [120]) none none:=⟨hf0.st,hf0.mp,hf0.ne,Nat.zero_le _,Nat.zero_le _⟩
 have hg1:=hf0.gB
 have hg2:=hf0.bB
 have hs0:=h0.size
 have hsB:=hB.size
 refine (open_new wb gf bm 60000 0 [120] hf name_d name_l (by decide) (by decide) (by omega) (by omega) (by omega)).mono ?_
 rintro e w2 ⟨gp,gm,gc0,rfl,g1,g2,hbp,him,hFr⟩
 have hb1 : Below w0.heap.size w0 wb:=h0.trans (hB.mono hs0)
 refine ⟨gp,_,rfl,pg_at hbp him,hb1.trans (Only.below hFr (fun k hk => ?_) hb1.size),fun j hj => ?_⟩
 · rcases hk with rfl | rfl | hk <;> omega
 · rcases hj with rfl | rfl <;> omega
theorem tnew_tr (w0 w2 : World) (gp k : Nat) (F : Nat->Prop) (hP : PgAt w2 F gp hd1) (hb : Below w0.heap.size w0 w2) (hF : ∀ j,F j->w0.heap.size<=j) (hk8 : k < 8) :
   Calls Tryz.prog 9 #[.pointer (some ⟨gp,0,none⟩),.int .i64 (k : Int)] w2 fun e w' => ∃ gt,e=.returned (.tuple #[.pointer (some ⟨gt,0,none⟩),.int .i64 0])/\w0.heap.size<=gt/\TrF w0 gt gp k [] 0 F w':=by
 refine (tnew_any w2 gp k hk8).mono ?_
 rintro e w' ⟨rfl,rfl⟩
 refine ⟨w2.heap.size,rfl,hb.size,⟨hd1,[],[],hP.alloc _,treeKV_new k,inv_new,by decide⟩,⟨Blk.new w2 81 _,fun hf => by have:=hP.lt _ hf; omega⟩,hb.alloc hb.size _,hF,Nat.le_refl _,fun p hp => by cases hp⟩
end Go.Proofs.YtiiljlmeililbaaGreatDoor
namespace Go.Proofs.YtiiljlmeililbaaGreatDoor
set_option linter.unusedVariables false
set_option maxRecDepth 100000
theorem riseK_ext : ∀ {a b : List KV},RiseK a->RiseK b->(∀ p,p ∈ a ↔ p ∈ b)->a=b
 | [],[],_,_,_ => rfl
 | [],y :: s,_,_,h => by have:=(h y).2 (.head _); cases this
 | x :: r,[],_,_,h => by have:=(h x).1 (.head _); cases this
 | x :: r, y :: s, ha, hb, h => by
   obtain ⟨ha1,ha2⟩:=List.pairwise_cons.1 ha
   obtain ⟨hb1,hb2⟩:=List.pairwise_cons.1 hb
   have hxy : x=y:=by
     rcases List.mem_cons.1 ((h x).1 (.head _)) with e | hx
     · exact e
     · rcases List.mem_cons.1 ((h y).2 (.head _)) with e | hy
       · exact e.symm
       · have := ltK_asymm _ _ (ha1 y hy)
         rw [hb1 x hx] at this
         cases this
   subst hxy
   rw [riseK_ext ha2 hb2 fun p => ?_]
   constructor
   · intro hp
     rcases List.mem_cons.1 ((h p).1 (.tail _ hp)) with e | h9
     · have h8 := ha1 p hp
       rw [e,ltK_irrefl] at h8
       cases h8
     · exact h9
   · intro hp
     rcases List.mem_cons.1 ((h p).2 (.tail _ hp)) with e | h9
     · have h8 := hb1 p hp
       rw [e,ltK_irrefl] at h8
       cases h8
     · exact h9
def valO (k : KeyB) : List UInt8:=bytesL k.length (k.headD 0)
def ordKV (ks : List KeyB) (s : Nat) : Nat->List KV
 | 0 => []
 | i + 1 => insKV (ks.getD ((i + s) % ks.length) []) (valO (ks.getD ((i + s) % ks.length) [])) (ordKV ks s i)
theorem ordKV_rise (ks : List KeyB) (s : Nat) : ∀ i,RiseK (ordKV ks s i)
 | 0 => List.Pairwise.nil
 | i + 1 => insKV_rise _ _ (ordKV_rise ks s i)
theorem insKV_has (key : KeyB) (b : List UInt8) (kv : List KV) : (key,b) ∈ insKV key b kv:=by unfold insKV; exact List.mem_append.2 (.inr (.head _))
theorem insKV_old {key : KeyB} {b : List UInt8} {kv : List KV} {p : KV} (h : p ∈ kv) : p ∈ insKV key b kv \/ p.1=key:=by
 unfold insKV loKV upKV
 cases h1 : ltK p.1 key with
 | true => exact .inl (List.mem_append.2 (.inl (List.mem_filter.2 ⟨h,h1⟩)))
 | false =>
   cases h2 : ltK key p.1 with
   | true => exact .inl (List.mem_append.2 (.inr (.tail _ (List.mem_filter.2 ⟨h,h2⟩))))
   | false => exact .inr (ltK_total _ _ h1 h2)
theorem ordKV_mem (ks : List KeyB) (s : Nat) : ∀ i (p : KV),p ∈ ordKV ks s i ↔ ∃ j,j < i/\p=(ks.getD ((j + s) % ks.length) [],valO (ks.getD ((j + s) % ks.length) []))
 | 0, p => by
   constructor
   · intro h; cases h
   · rintro ⟨j,h,_⟩; omega
 | i + 1, p => by
   rw [ordKV]
   constructor
   · intro h
     rcases insKV_mem h with e | h
     · exact ⟨i,by omega,e⟩
     · obtain ⟨j, h1, h2⟩ := (ordKV_mem ks s i p).1 h
       exact ⟨j,by omega,h2⟩
   · rintro ⟨j, h1, h2⟩
     rcases Nat.lt_or_ge j i with h3 | h3
     · rcases insKV_old (key := ks.getD ((i + s) % ks.length) []) (b := valO (ks.getD ((i + s) % ks.length) [])) ((ordKV_mem ks s i p).2 ⟨j, h3, h2⟩) with h4 | h4
       · exact h4
       · have e : p=(ks.getD ((i + s) % ks.length) [],valO (ks.getD ((i + s) % ks.length) [])):=by
           rw [h2] at h4 ⊢
           simp only at h4
           rw [h4]
         rw [e]
         exact insKV_has _ _ _
     · obtain rfl : j = i := by omega
       rw [h2]
       exact insKV_has _ _ _
theorem ordKV_turn (ks : List KeyB) (s : Nat) (hn : 0 < ks.length) : ordKV ks s ks.length=ordKV ks 0 ks.length:=by
 refine riseK_ext (ordKV_rise _ _ _) (ordKV_rise _ _ _) fun p => ?_
 rw [ordKV_mem,ordKV_mem]
 constructor
 · rintro ⟨j, h1, h2⟩
   refine ⟨(j + s) % ks.length,Nat.mod_lt _ hn,?_⟩
   rw [Nat.add_zero,Nat.mod_mod]; exact h2
 · rintro ⟨j, h1, h2⟩
   rw [Nat.add_zero,Nat.mod_eq_of_lt h1] at h2
   refine ⟨(j + (ks.length - s % ks.length)) % ks.length,Nat.mod_lt _ hn,?_⟩
   have e : ((j + (ks.length - s % ks.length)) % ks.length + s) % ks.length=j:=by
     have h3:=Nat.mod_lt s hn
     have h4:=Nat.div_add_mod s ks.length
     rw [Nat.mod_add_mod]
     have h5 : j + (ks.length - s % ks.length) + s=j + ks.length * (s / ks.length + 1):=by
       rw [Nat.mul_add,Nat.mul_one]; omega
     rw [h5,Nat.add_mul_mod_self_left,Nat.mod_eq_of_lt h1]
   rw [e]; exact h2
theorem fromK_nil {kv : List KV} (h : RiseK kv) : fromK [] kv=kv:=by
 rw [fromK_eq [] h]
 exact List.filter_eq_self.2 fun p _ => by rw [ltK_nil]; rfl
theorem pairs_ne {F : Nat->Prop} {w : World} {A : Option Addr} {kv : List KV} (h : PairsAt F w A kv) (g t : Nat) (x : Value) (hb : Blk w g t #[x,.slice none 0 0]) (h0 : 0 < kv.length) (hv : ∀ p ∈ kv,1<=p.2.length) : ∃ ad,A=some ad/\ad.block ≠ g:=by
 obtain ⟨ad,kA,kc,vA,vc,rfl,_,h2,_,_,_,_⟩:=h.at_ 0 h0
 refine ⟨ad,rfl,fun e => ?_⟩
 have h3 : (ad.add (0 * 2)).block=g:=by rw [<- e]; cases ad; rfl
 rw [h3,hb.cell] at h2
 have h4:=hv _ (List.getElem_mem h0)
 rcases Nat.eq_zero_or_pos (ad.add (0 * 2)).off with h5 | h5
 · rw [h5] at h2
   simp at h2
   omega
 · have h6 : (#[x, Value.slice none 0 0] : Array Value)[(ad.add (0 * 2)).off + 1]? = none := Array.getElem?_eq_none (by show 2 <= (ad.add (0 * 2)).off + 1; omega)
   rw [h6] at h2; cases h2
theorem PairsAt.leave {F : Nat->Prop} {w : World} {A : Option Addr} {kv : List KV} (h : PairsAt F w A kv) (g t : Nat) (x : Value) (ht : t ≠ 5) (hb : Blk w g t #[x,.slice none 0 0]) (hv : ∀ p ∈ kv,1<=p.2.length) : PairsAt (plus F g) w A kv:=by
 have h9:=fun h0 => pairs_ne h g t x hb h0 hv
 obtain ⟨rows,h1,h2,h3⟩:=h
 refine ⟨rows,h1,⟨h2.1,fun hn => ?_⟩,?_⟩
 · obtain ⟨ad, e, hG, hc⟩ := h2.2 hn
   obtain ⟨ad',e',hne⟩:=h9 hn
   rw [e] at e'; injection e' with e'; subst e'
   exact ⟨ad,e,⟨hG.1,fun hf => hf.elim hG.2 hne⟩,hc⟩
 · have hk : ∀ k,byteOf F w k->byteOf (plus F g) w k/\w.heap[k]?=w.heap[k]?:=fun k hk => by
     obtain ⟨hm,cs,hcs⟩:=hk
     exact ⟨⟨⟨hm.1,fun hf => hf.elim hm.2 fun e => Blk.ne_ hcs hb (fun e => ht e.symm) e⟩,cs,hcs⟩,rfl⟩
   intro i vs p hi hp
   obtain ⟨kA,kc,vA,vc,e,g1,g2,g3,g4⟩:=h3 i vs p hi hp
   exact ⟨kA,kc,vA,vc,e,g1,g2,g3.keep hk,g4.keep hk⟩
theorem PairsAt.few {F G : Nat->Prop} {w : World} {A : Option Addr} {kv : List KV} (h : PairsAt F w A kv) (hG : ∀ k,G k->F k) : PairsAt G w A kv:=by
 obtain ⟨rows,h1,h2,h3⟩:=h
 have hm : ∀ k,Mine F w k->Mine G w k:=fun k hk => ⟨hk.1,fun hg => hk.2 (hG k hg)⟩
 have hk : ∀ k,byteOf F w k->byteOf G w k/\w.heap[k]?=w.heap[k]?:=fun k hk => ⟨⟨hm k hk.1,hk.2⟩,rfl⟩
 refine ⟨rows,h1,h2.keep fun k hk => ⟨hm k hk,rfl⟩,?_⟩
 intro i vs p hi hp
 obtain ⟨kA,kc,vA,vc,e,g1,g2,g3,g4⟩:=h3 i vs p hi hp
 exact ⟨kA,kc,vA,vc,e,g1,g2,g3.keep hk,g4.keep hk⟩
theorem ordKV_val (ks : List KeyB) (s i : Nat) (h1 : ∀ k ∈ ks,1<=k.length/\k.length<=120) (hn : 0 < ks.length) : ∀ p ∈ ordKV ks s i,p.1.length<=120/\1<=p.2.length/\p.2.length<=120:=by
 intro p hp
 obtain ⟨j,_,e⟩:=(ordKV_mem ks s i p).1 hp
 have hx : (j + s) % ks.length < ks.length:=Nat.mod_lt _ hn
 have h2:=h1 (ks.getD ((j + s) % ks.length) []) (by rw [List.getD_eq_getElem?_getD,List.getElem?_eq_getElem hx]; exact List.getElem_mem hx)
 rw [e]
 exact ⟨h2.2,by rw [valO,bytesL_len]; exact h2.1,by rw [valO,bytesL_len]; exact h2.2⟩
theorem ordKV_len (ks : List KeyB) (s : Nat) : ∀ i,(ordKV ks s i).length<=i
 | 0 => Nat.le_refl _
 | i + 1 => by
   have h1:=insKV_len (ks.getD ((i + s) % ks.length) []) (valO (ks.getD ((i + s) % ks.length) [])) (ordKV ks s i)
   have h2:=ordKV_len ks s i
   rw [ordKV]; omega
end Go.Proofs.YtiiljlmeililbaaGreatDoor
namespace Go.Proofs.YtiiljlmeililbaaGreatDoor
set_option linter.unusedVariables false
set_option maxRecDepth 100000
open Go.RowKit Go.Maps
def OutV (g : Nat) (w : World) (kv : List KV) (v : Value) : Prop:=∃ A c,v=.slice A kv.length c/\kv.length<=c/\PairsAt (fun j => j=g) w A kv
def OrdS (w0 : World) (g : Nat) (kv : List KV) (p : Nat) (wx : World) : Prop :=
 Below w0.heap.size w0 wx/\w0.heap.size<=g/\∃ v0 v1,Blk wx g 52 #[v0,v1]/\((p=0/\v0=.slice none 0 0/\v1=.slice none 0 0) \/ (p=1/\OutV g wx kv v0/\v1=.slice none 0 0) \/ (p=2/\OutV g wx kv v0/\OutV g wx kv v1))
theorem OutV.ev {F : Nat->Prop} {g : Nat} {w w' : World} {kv : List KV} {v : Value} (h : OutV g w kv v) (he : Ev (fun j => j=g) w (plus F g) w') : OutV g w' kv v:=by
 obtain ⟨A,c,e,h1,h2⟩:=h
 exact ⟨A,c,e,h1,(h2.ev he).few fun k hk => .inr hk⟩
theorem ord_next {w0 wr w6 w9 : World} {g gt gp N p : Nat} {kv : List KV} {F F' : Nat->Prop} (hS : OrdS w0 g kv p wr) (hp : p < 2) (hT : TrF wr gt gp 0 kv N F w6) (hv : ∀ q ∈ kv,1<=q.2.length) (A : Option Addr) (c : Nat) (hc : kv.length<=c) (hP : PairsAt F w6 A kv)
   (hE : Ev F (w6.setCell ⟨g,p,none⟩ (.slice A kv.length c)) F' w9) : OrdS w0 g kv (p + 1) w9:=by
 obtain ⟨hB,hg,v0,v1,hb,hcase⟩:=hS
 have hgl:=Blk.lt hb
 have hng : ¬ F g:=fun hf => by have:=hT.up g hf; omega
 have hb6 : Blk w6 g 52 #[v0,v1]:=hb.below hT.bl hgl
 have e1 : Ev (fun j => j=g) wr (plus F g) w6:=⟨(Ev.of_below (F:=fun j => j=g) hT.bl).only,fun k hk => hk.elim (fun h => .inr (hT.up k h)) .inl⟩
 have e2 : Ev (plus F g) w6 (plus F g) (w6.setCell ⟨g,p,none⟩ (.slice A kv.length c)):=(Ev.refl _ w6).set_ (p:=⟨g,p,none⟩) (.inr rfl) _
 have e3:=hE.plus g
 have e:=e1.trans (e2.trans e3)
 have hb7:=hb6.set_ p (.slice A kv.length c)
 have hb9:=hE.blk hb7 hng
 have hnew : ∀ x t,t ≠ 5->Blk w6 g t #[x,.slice none 0 0]->OutV g w9 kv (.slice A kv.length c):=fun x t ht hbx => by
   have h5:=hP.leave g t x ht hbx hv
   exact ⟨A,c,rfl,hc,((h5.ev e2).ev e3).few fun k hk => .inr hk⟩
 have hB9 : Below w0.heap.size w0 w9:=by
   have h1 : Only (fun j => w0.heap.size<=j) wr w9:=e.only.mono fun i _ hi => by rw [hi]; exact hg
   exact hB.trans (Only.below h1 (fun k hk => hk) hB.size)
 refine ⟨hB9,hg,?_⟩
 rcases hcase with ⟨rfl,rfl,rfl⟩ | ⟨rfl,h0,rfl⟩ | ⟨rfl,_⟩
 · exact ⟨_,_,hb9,.inr (.inl ⟨rfl,hnew _ _ (by decide) hb6,rfl⟩)⟩
 · exact ⟨_,_,hb9,.inr (.inr ⟨rfl,h0.ev e,hnew _ _ (by decide) hb6⟩)⟩
 · omega
set_option maxHeartbeats 4000000 in
theorem treeOrders_walk (w : World) (A : Option Addr) (n c T : Nat) (ks : List (List UInt8)) (hA : RowsB w A n c ks) (hc : c<=maxLen) (hT : T < 256) :
   Calls Tryz.prog 4 #[.slice A n c,.int .u8 (T : Int)] w fun e w' => e=.returned (.bool true)/\Below w.heap.size w w':=by
 have hn:=hA.cap
 unfold maxLen at hc
 replace hA:=hide hA
 go_enter Tryz.func4,Tryz.ntmps4
 go_wp2_with fail
 refine (wakes_any w).mono ?_
 rintro e w1 ⟨rfl,hB1⟩
 replace hB1:=hide hB1
 by_cases hn1 : 80 < n
 · have l1 : decide (80 < (n : Int)) = true := decide_eq_true (by omega)
   go_wp2_with fail
   go_ret
   exact ⟨rfl,hB1.out⟩
 have l1 : decide (80 < (n : Int))=false:=decide_eq_false (by omega)
 have l1n : decide (80 < n)=false:=decide_eq_false (by omega)
 by_cases hn0 : n=0
 · have l2 : ((n : Int) == 0) = true := by rw [hn0]; rfl
   replace hn0:=hide hn0
   go_wp2_with fail
   go_ret
   exact ⟨rfl,hB1.out⟩
 have l2 : ((n : Int) == 0)=false:=by rw [beq_eq_false_iff_ne]; omega
 have hnI : (n : Int)<=80:=by omega
 have hnp : 0 < n:=by omega
 have hnc : (n : Int)<=(c : Int):=by omega
 clear hn0 hn1
 go_wp2_with fail
 go_loopw [27] (fun v27 wx => ∃ i : Nat,v27=.int .i64 (i : Int)/\i<=n/\wx=w1/\Hid (∀ j (hj : j < ks.length),j < i->1<=ks[j].length/\ks[j].length<=120)) (fun v27 _ => n - (intOf v27).toNat)
 case atStart => exact ⟨0,rfl,by omega,rfl,hide fun j hj h => by omega⟩
 case round =>
   obtain ⟨i,rfl,hi,rfl,hG⟩:=hrel
   by_cases hlt : i < n
   · have hlk : i < ks.length := by rw [hA.out.len]; exact hlt
     obtain ⟨ad,kA,kc,rfl,hcell,hkc,hkcm,hkr⟩:=hA.out.at_ hB1.out i hlk
     obtain ⟨KL,hKL⟩ : ∃ KL,KL=ks[i].length:=⟨_,rfl⟩
     rw [<- hKL] at hcell hkc hkr
     unfold maxLen at hkcm
     have hiI : (i : Int) < (n : Int):=by omega
     by_cases h1 : KL < 1
     · have z1 : decide ((KL : Int) < 1) = true := decide_eq_true (by omega)
       replace hkr:=hide hkr
       replace hKL:=hide hKL
       go_wp2_with fail
       go_ret
       exact ⟨rfl,hB1.out⟩
     by_cases h2 : 120 < KL
     · have z1 : decide ((KL : Int) < 1) = false := decide_eq_false (by omega)
       have z2 : decide (120 < (KL : Int))=true:=decide_eq_true (by omega)
       replace hkr:=hide hkr
       replace hKL:=hide hKL
       go_wp2_with fail
       go_ret
       exact ⟨rfl,hB1.out⟩
     have z1 : decide ((KL : Int) < 1)=false:=decide_eq_false (by omega)
     have z2 : decide (120 < (KL : Int))=false:=decide_eq_false (by omega)
     have z2n : decide (120 < KL)=false:=decide_eq_false h2
     have hrel : Hid (∀ j (hj : j < ks.length),j < i + 1->1<=ks[j].length/\ks[j].length<=120):=hide (fun j hj h => by
       rcases Nat.lt_or_ge j i with h3 | h3
       · exact hG.out j hj h3
       · obtain rfl : j = i := by omega
         omega)
     replace hkr:=hide hkr
     replace hKL:=hide hKL
     clear h1 h2
     go_wp2_with fail
     go_roundw
     case rel => exact ⟨i + 1,by go_num,by omega,by trivial,hrel⟩
     case measure => simp only [intOf]; omega
   · obtain rfl : n = i := by omega
     have hks : ∀ k ∈ ks,1<=k.length/\k.length<=120:=fun k hk => by
       obtain ⟨j,hj,e⟩:=List.getElem_of_mem hk
       rw [<- e]
       exact hG.out j hj (by rw [<- hA.out.len]; exact hj)
     obtain ⟨KV,hKV⟩ : ∃ KV,KV=ordKV ks 0 ks.length:=⟨_,rfl⟩
     obtain ⟨w2,hw2⟩ : ∃ w2,w2=wr.alloc (.cells #[.slice none 0 0,.slice none 0 0] 52):=⟨_,rfl⟩
     obtain ⟨g7,hg7⟩ : ∃ g7,g7=wr.heap.size:=⟨_,rfl⟩
     have hst : Hid (OrdS w g7 KV 0 w2):=hide ⟨by rw [hw2]; exact hB1.out.alloc hB1.out.size _,by rw [hg7]; exact hB1.out.size,_,_,by rw [hw2,hg7]; exact Blk.new wr 52 _,.inl ⟨rfl,rfl,rfl⟩⟩
     have hw2e : wr.alloc (.cells #[.slice none 0 0,.slice none 0 0] 52)=w2:=hw2.symm
     have hg7e : wr.heap.size=g7:=hg7.symm
     replace hks : Hid _:=hide hks
     replace hKV:=hide hKV
     replace hw2:=hide hw2
     replace hg7:=hide hg7
     go_wp2_with fail
     clear hG hw2e hg7e
     go_loopw [40] (fun v40 wx => ∃ p : Nat,v40=.int .i64 (p : Int)/\p<=2/\Hid (OrdS w g7 KV p wx)) (fun v40 _ => 2 - (intOf v40).toNat)
     case atStart => exact ⟨0,rfl,by omega,hst⟩
     case round =>
       clear hst hw2 hg7
       obtain ⟨p,rfl,hp,hS⟩:=hrel
       obtain ⟨wp,hwp⟩ : ∃ wp,wp=wr:=⟨_,rfl⟩
       subst hwp
       by_cases hp2 : p < 2
       · have hpI : (p : Int) < 2 := by omega
         have hwr:=hS.out.1
         have hnew:=hide (fnew_any wp 60000 (by omega) (by omega))
         replace hwr:=hide hwr
         go_wp2_with fail
         go_at_call 8
         refine hnew.out.mono ?_
         rintro e w3 ⟨gf,bm,rfl,hfs,hB3⟩
         have hop:=hide (open_tr wp wp w3 gf bm (Below.refl _ _) hfs hB3)
         replace hfs : Hid _:=hide hfs
         replace hB3:=hide hB3
         clear hnew
         go_wp2_with fail
         go_at_call 7
         refine hop.out.mono ?_
         rintro e w4 ⟨gp,F4,rfl,hP4,hB4,hU4⟩
         have htn:=hide (tnew_tr wp w4 gp 0 F4 hP4 hB4 hU4 (by omega))
         replace hP4:=hide hP4
         replace hB4:=hide hB4
         replace hU4:=hide hU4
         clear hop
         go_wp2_with fail
         go_at_call 9
         refine htn.out.mono ?_
         rintro e w5 ⟨gt,rfl,hgt,hT5⟩
         obtain ⟨s,hs⟩ : ∃ s : Nat,s=p * T:=⟨_,rfl⟩
         have hsT : s<=255:=by
           rcases Nat.lt_or_ge p 1 with h9 | h9
           · obtain rfl : p = 0 := by omega
             omega
           · obtain rfl : p = 1 := by omega
             omega
         have hst : Hid (∃ F,TrF wp gt gp 0 (ordKV ks s 0) 0 F w5):=hide ⟨F4,hT5⟩
         have hsI : (p : Int) * (T : Int)=(s : Int):=by rw [hs]; simp
         have hsW : IntKind.i64.wrap ((p : Int) * (T : Int))=(s : Int):=by rw [hsI]; exact IntWalk.i64_in _ (by omega)
         replace hT5:=hide hT5
         replace hs:=hide hs
         replace hsI:=hide hsI
         clear htn
         go_wp2_with fail
         go_loopw [57] (fun v57 wx => ∃ i : Nat,v57=.int .i64 (i : Int)/\i<=n/\Hid (∃ F,TrF wp gt gp 0 (ordKV ks s i) i F wx)) (fun v57 _ => n - (intOf v57).toNat)
         case atStart => exact ⟨0,rfl,by omega,hst⟩
         case round =>
           clear hst hT5
           obtain ⟨i,rfl,hi,hTr⟩:=hrel
           by_cases hlt : i < n
           · obtain ⟨F, hTF⟩ := hTr.out
             clear hTr
             obtain ⟨X,hX⟩ : ∃ X : Nat,X=(i + s) % n:=⟨_,rfl⟩
             have hXn : X < n:=by rw [hX]; exact Nat.mod_lt _ hnp
             have hlk : X < ks.length:=by rw [hA.out.len]; exact hXn
             have hbl : Below w.heap.size w wr:=hwr.out.trans (hTF.bl.mono hwr.out.size)
             obtain ⟨ad,kA,kc,rfl,hcell,hkc,hkcm,hkr⟩:=hA.out.at_ hbl X hlk
             obtain ⟨K,hK⟩ : ∃ K,K=ks[X]:=⟨_,rfl⟩
             rw [<- hK] at hcell hkc hkr
             have hKk:=hks.out K (by rw [hK]; exact List.getElem_mem hlk)
             have hgD : ks.getD X []=K:=by rw [List.getD_eq_getElem?_getD,List.getElem?_eq_getElem hlk,hK]; rfl
             obtain ⟨x0,hx0⟩ : ∃ x0,x0=K.headD 0:=⟨_,rfl⟩
             obtain ⟨adk,hkA,_,hkcells⟩:=hkr.2 (by omega)
             subst hkA
             have hk0 : wr.cell? (adk.add 0)=some (.int .u8 (x0.toNat : Int)):=hkcells 0 _ (by
               rw [hx0]
               cases K with
               | nil => simp at hKk
               | cons a r => rfl)
             have hk00 : wr.cell? adk=some (.int .u8 (x0.toNat : Int)):=by
               have e : adk.add 0=adk:=by cases adk; rfl
               rw [e] at hk0; exact hk0
             clear hkcells
             obtain ⟨KL,hKL⟩ : ∃ KL,KL=K.length:=⟨_,rfl⟩
             rw [<- hKL] at hcell hkc hkr hKk
             unfold maxLen at hkcm
             have hXI : (X : Int) < (n : Int):=by omega
             have hiI : (i : Int) < (n : Int):=by omega
             have hsI2 : (s : Int)<=255:=by omega
             have hrem : ((i : Int) + (s : Int)).tmod (n : Int)=(X : Int):=by
               rw [Int.tmod_eq_emod_of_nonneg (by omega),hX]; simp
             have hlb:=hide (lbytes_any wr KL x0 (by omega))
             obtain ⟨VB,hVB⟩ : ∃ VB,VB=bytesL KL x0:=⟨_,rfl⟩
             have hVBl : VB.length=KL:=by rw [hVB,bytesL_len]
             have hVO : VB=valO K:=by rw [hVB,valO,<- hKL,<- hx0]
             rw [<- hVB] at hlb
             have hkl1 : KL<=120:=hKk.2
             have hkl0 : 0 < KL:=hKk.1
             have hstep : ordKV ks s (i + 1)=insKV K VB (ordKV ks s i):=by
               rw [ordKV,hA.out.len,<- hX,hgD,hVO]
             replace hVB:=hide hVB
             replace hTF:=hide hTF
             replace hbl:=hide hbl
             replace hkr:=hide hkr
             replace hK:=hide hK
             replace hKL:=hide hKL
             replace hX:=hide hX
             replace hx0:=hide hx0
             replace hgD:=hide hgD
             replace hKk:=hide hKk
             replace hVO:=hide hVO
             replace hstep:=hide hstep
             go_wp2_with fail
             go_at_call 10
             refine hlb.out.mono ?_
             rintro e w6 ⟨g,rfl,hO6,hB6⟩
             have hT6:=hTF.out.below hB6
             have hFl:=hTF.out.lt
             have hFu:=hTF.out.up
             have hbl6:=hT6.bl
             have hkO : Rd (fun j => j < w.heap.size) w6 1 (some adk) KL (bv K):=hkr.out.keep fun j hj => ⟨hj,hB6.block j (Nat.lt_of_lt_of_le hj hbl.out.size)⟩
             have hk6 : MB F w6 (some adk) KL K:=hkO.keep fun j hj => ⟨⟨Nat.lt_of_lt_of_le hj (Nat.le_trans hbl.out.size hB6.size),fun hf => by have h8:=hFu j hf; have h9:=hwr.out.size; omega⟩,rfl⟩
             have hvO : Rd (fun j => wr.heap.size<=j/\j < w6.heap.size) w6 1 (some ⟨g,0,none⟩) KL (bv VB):=Rd.of_own hO6 fun j h1 h2 => ⟨h1,h2⟩
             have hv6 : MB F w6 (some ⟨g,0,none⟩) KL VB:=hvO.keep fun j hj => ⟨⟨hj.2,fun hf => by have:=hFl j hf; omega⟩,rfl⟩
             have hpt:=hide (tr_put hT6 (by omega) (by omega) (some adk) (some ⟨g,0,none⟩) kc KL K VB (by rw [<- hKL.out]; exact hk6) (by rw [hVBl]; exact hv6) (by rw [<- hKL.out]; exact hkl0) (by rw [<- hKL.out]; exact hkl1) (by rw [hVBl]; omega) (by rw [hVBl]; exact Nat.le_refl _))
             rw [<- hKL.out,hVBl] at hpt
             replace hT6:=hide hT6
             replace hFl:=hide hFl
             replace hFu:=hide hFu
             replace hkO:=hide hkO
             replace hk6:=hide hk6
             replace hvO:=hide hvO
             replace hv6:=hide hv6
             replace hO6:=hide hO6
             replace hB6:=hide hB6
             replace hbl6:=hide hbl6
             clear hlb hrem
             go_wp2_with fail
             go_at_call 11
             refine hpt.out.mono ?_
             rintro e w7 ⟨rfl,F7,hT7,hE7⟩
             have hrel : Hid (∃ F,TrF wp gt gp 0 (ordKV ks s (i + 1)) (i + 1) F w7):=hide ⟨F7,by rw [hstep.out]; exact hT7⟩
             replace hT7:=hide hT7
             replace hE7:=hide hE7
             clear hpt
             go_wp2_with fail
             go_roundw
             case rel => exact ⟨i + 1,by go_num,by omega,hrel⟩
             case measure => simp only [intOf]; omega
           · obtain rfl : n = i := by omega
             obtain ⟨F,hTF⟩:=hTr.out
             clear hTr
             have hlenK:=hA.out.len
             have hKVe : ordKV ks s n=KV:=by rw [hKV.out,<- hlenK]; exact ordKV_turn ks s (by omega)
             rw [hKVe] at hTF
             have hrise:=hTF.rise
             have hal:=hide (tr_all hTF (by omega) (by omega) none 0 [] ⟨rfl,fun h => by simp at h⟩ (by simp))
             rw [fromK_nil hrise] at hal
             have hvs : ∀ q ∈ KV,1<=q.2.length:=fun q hq => by
               rw [hKV.out] at hq
               exact (ordKV_val ks 0 ks.length hks.out (by omega) q hq).2.1
             obtain ⟨NK,hNK⟩ : ∃ NK,NK=KV.length:=⟨_,rfl⟩
             replace hvs : Hid _:=hide hvs
             replace hTF:=hide hTF
             replace hKVe:=hide hKVe
             replace hrise:=hide hrise
             replace hlenK:=hide hlenK
             go_wp2_with fail
             go_at_call 13
             refine hal.out.mono ?_
             rintro e w6 ⟨F6,A6,n6,c6,rfl,hn6,hnc6,hT6,hE6,hP6⟩
             clear hal
             have hO:=hS.out
             obtain ⟨_,hg0,v0,v1,hb0,_⟩:=hS.out
             have hgl:=Blk.lt hb0
             have hb6:=hb0.below hT6.bl hgl
             have hfz:=hb6.frozen p
             have hng : ¬ F6 g7:=fun hf => by have:=hT6.up g7 hf; omega
             obtain ⟨vp,hcp⟩ : ∃ vp,w6.cell? ⟨g7,p,none⟩=some vp:=by
               rcases Nat.lt_or_ge p 1 with h9 | h9
               · obtain rfl : p = 0 := by omega
                 exact ⟨v0,hb6.cell 0⟩
               · obtain rfl : p = 1 := by omega
                 exact ⟨v1,hb6.cell 1⟩
             obtain ⟨W7,hW7⟩ : ∃ W7,W7=w6.setCell ⟨g7,p,none⟩ (.slice A6 n6 c6):=⟨_,rfl⟩
             have hW7e : w6.setCell ⟨g7,p,none⟩ (.slice A6 n6 c6)=W7:=hW7.symm
             obtain ⟨st,fl,pages,hPg,hTK,hI,hm⟩:=hT6.st
             obtain ⟨L,PP,O,hTo,hV,_⟩:=hTK
             have hVl:=hV.len
             have hle6:=hT6.le
             have e2 : Ev (plus F6 g7) w6 (plus F6 g7) W7:=by rw [hW7]; exact (Ev.refl _ w6).set_ (p:=⟨g7,p,none⟩) (.inr rfl) _
             have hgt7 : gt ≠ g7:=Blk.ne_ hT6.tr.blk hb6 (by decide)
             have ht7 : TreeAt W7 F6 gt gp 0:=⟨e2.blk hT6.tr.blk (fun hf => hf.elim hT6.tr.out hgt7),hT6.tr.out⟩
             have hP7 : PgAt W7 F6 gp st:=by rw [hW7]; exact hPg.set_ (p:=⟨g7,p,none⟩) hng _
             have hck:=hide (check_any W7 F6 gt gp 0 st hP7 ht7 (by omega) L PP hTo (by omega))
             clear hb6 hI hm hPg hTo hV hVl hle6 e2 ht7 hP7 hb0
             replace hO:=hide hO
             replace hng:=hide hng
             replace hgt7:=hide hgt7
             replace hT6:=hide hT6
             replace hE6:=hide hE6
             replace hP6:=hide hP6
             replace hn6:=hide hn6
             replace hnc6:=hide hnc6
             replace hW7:=hide hW7
             replace hg0:=hide hg0
             go_wp2_with fail
             go_at_call 19
             refine hck.out.mono ?_
             rintro e w9 ⟨rfl,F9,hP9,hE9⟩
             have hrel : Hid (OrdS w g7 KV (p + 1) w9):=hide (by
               have hE : Ev F6 (w6.setCell ⟨g7,p,none⟩ (.slice A6 KV.length c6)) F9 w9:=by rw [<- hn6.out,<- hW7.out]; exact hE9
               exact ord_next hO.out hp2 hT6.out hvs.out A6 c6 (by rw [<- hn6.out]; exact hnc6.out) hP6.out hE)
             replace hP9:=hide hP9
             replace hE9:=hide hE9
             clear hck hcp hfz
             go_wp2_with fail
             go_roundw
             case rel => exact ⟨p + 1,by go_num,by omega,hrel⟩
             case measure => simp only [intOf]; omega
       · obtain rfl : p = 2 := by omega
         obtain ⟨hB9,hg0,v0,v1,hb0,hcase⟩:=hS.out
         rcases hcase with ⟨h9,_⟩ | ⟨h9,_⟩ | ⟨_,⟨A0,c0,rfl,hc0,hp0⟩,A1,c1,rfl,hc1,hp1⟩
         · omega
         · omega
         have hlenK:=hA.out.len
         have hKVl : KV.length<=100000:=by
           have h1:=ordKV_len ks 0 ks.length
           rw [hKV.out]; omega
         have q0:=hb0.cell 0
         have q1:=hb0.cell 1
         have hsm:=hide (lsame_any (fun j => j=g7) wp A0 A1 KV.length c0 c1 KV hp0 hp1 rfl hc0 hc1 (fun q hq => by
           rw [hKV.out] at hq
           have h9:=ordKV_val ks 0 ks.length hks.out (by omega) q hq
           omega) hKVl)
         replace hb0:=hide hb0
         replace hp0:=hide hp0
         replace hp1:=hide hp1
         replace hB9:=hide hB9
         obtain ⟨NK,hNK⟩ : ∃ NK,NK=KV.length:=⟨_,rfl⟩
         rw [<- hNK] at hsm q0 q1 hc0 hc1 hKVl
         replace hNK:=hide hNK
         replace hlenK:=hide hlenK
         go_wp2_with fail
         go_at_call 16
         refine hsm.out.mono ?_
         rintro e w9 ⟨rfl,hQ9⟩
         have hdone : Hid (Below w.heap.size w w9):=hide (hB9.out.trans ((hQ9.below wp.heap.size).mono hB9.out.size))
         clear hsm hQ9 q0 q1
         go_wp2_with fail
         go_ret
         exact ⟨rfl,hdone.out⟩
theorem treeOrders_true (w : World) (A : Option Addr) (n c : Nat) (ks : List (List UInt8)) (hA : RowsB w A n c ks) (hc : c<=maxLen) (x : Int) (wx : (Lit.int .u8 x).wf=true) :
   Calls Tryz.prog 4 #[.slice A n c,.int .u8 x] w fun e w' => e=.returned (.bool true)/\Below w.heap.size w w':=by
 simp [Lit.wf,IntKind.min,IntKind.max,IntKind.signed,IntKind.bits] at wx
 obtain ⟨T,rfl⟩ : ∃ T : Nat,x=(T : Int):=⟨x.toNat,by omega⟩
 exact treeOrders_walk w A n c T ks hA hc (by omega)
end Go.Proofs.YtiiljlmeililbaaGreatDoor
