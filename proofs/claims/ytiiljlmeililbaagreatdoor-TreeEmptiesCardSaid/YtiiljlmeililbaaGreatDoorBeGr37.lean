/-
  A new store's pager: contracts of db, log, sectors, there, and of what Open does first.
-/
import Derived.Test.YtiiljlmeililbaaGreatDoorBeGr36
import Derived.Test.YtiiljlmeililbaaGreatDoorBePgB
namespace Go.Proofs.YtiiljlmeililbaaGreatDoor
set_option linter.unusedVariables false
set_option maxRecDepth 100000
open Go.RowKit Go.Maps
def pgF (gf : Nat) (nm : List UInt8) (a b : PgS) (gm gc : Nat) (row : Value) (rd : Nat) : Array Value :=
 #[ptrV gf,.string (str nm),.int .i64 (a.many : Int),.int .i64 (a.free : Int),.int .i64 (a.roots 0 : Int),.int .i64 (a.roots 1 : Int),.int .i64 (a.roots 2 : Int),.int .i64 (a.roots 3 : Int),.int .i64 (a.roots 4 : Int),.int .i64 (a.roots 5 : Int),.int .i64 (a.roots 6 : Int),.int .i64 (a.roots 7 : Int),
   .int .i64 (b.many : Int),.int .i64 (b.free : Int),.int .i64 (b.roots 0 : Int),.int .i64 (b.roots 1 : Int),.int .i64 (b.roots 2 : Int),.int .i64 (b.roots 3 : Int),.int .i64 (b.roots 4 : Int),.int .i64 (b.roots 5 : Int),.int .i64 (b.roots 6 : Int),.int .i64 (b.roots 7 : Int),
   .map (some gm),.map (some gc),row,.int .i64 (rd : Int),.bool false]
def dbN (nm : List UInt8) : List UInt8:=nm ++ [46,100,98]
def logN (nm : List UInt8) : List UInt8:=nm ++ [46,108,111,103]
theorem str_db (nm : List UInt8) : str nm ++ (⟨#[46,100,98]⟩ : ByteArray)=str (dbN nm):=str_append nm [46,100,98]
theorem str_log (nm : List UInt8) : str nm ++ (⟨#[46,108,111,103]⟩ : ByteArray)=str (logN nm):=str_append nm [46,108,111,103]
theorem db_any (w : World) (gp : Nat) (nm : List UInt8) (h1 : w.cell? ⟨gp,1,none⟩=some (.string (str nm))) (hl : nm.length<=20) : Calls Tryz.prog 30 #[.pointer (some ⟨gp,0,none⟩)] w fun e w' => e=.returned (.string (str (dbN nm)))/\w=w':=by
 have hs : ¬ 9223372036854775807 < (str nm).size + 3:=by rw [str_size]; omega
 have hc:=str_db nm
 go_enter Tryz.func30,Tryz.ntmps30
 go_wp2_with fail
 go_ret
 exact ⟨rfl,rfl⟩
theorem log_any (w : World) (gp : Nat) (nm : List UInt8) (h1 : w.cell? ⟨gp,1,none⟩=some (.string (str nm))) (hl : nm.length<=20) : Calls Tryz.prog 32 #[.pointer (some ⟨gp,0,none⟩)] w fun e w' => e=.returned (.string (str (logN nm)))/\w=w':=by
 have hs : ¬ 9223372036854775807 < (str nm).size + 4:=by rw [str_size]; omega
 have hc:=str_log nm
 go_enter Tryz.func32,Tryz.ntmps32
 go_wp2_with fail
 go_ret
 exact ⟨rfl,rfl⟩
theorem sectors_any (w : World) (n : Nat) (hn : n<=1000000000) : Calls Tryz.prog 106 #[.int .i64 (n : Int)] w fun e w' => e=.returned (.int .i64 (((n + 63) / 64 : Nat) : Int))/\w=w':=by
 obtain ⟨D,hD⟩ : ∃ D,D=(n + 63) / 64:=⟨_,rfl⟩
 rw [<- hD]
 have h3 : ((n : Int) + 64 - 1) / 64=(D : Int):=by omega
 replace h3:=hide h3
 replace hD:=hide hD
 go_enter Tryz.func106,Tryz.ntmps106
 go_wp2_with fail
 go_ret
 exact ⟨ret_int h3.out,rfl⟩
theorem there_new (w : World) (gp gf : Nat) (nm : List UInt8) (h0 : w.cell? ⟨gp,0,none⟩=some (.pointer (some ⟨gf,0,none⟩))) (R : Ending->World->Prop)
   (hlen : Calls Tryz.prog 59 #[.pointer (some ⟨gf,0,none⟩),.string (str nm)] w fun e w' => e=.returned (.tuple #[.int .i64 0,.bool false])/\w=w')
   (hcr : Calls Tryz.prog 60 #[.pointer (some ⟨gf,0,none⟩),.string (str nm)] w R) (hR : ∀ e w',R e w'->e=.returned (.int .i64 0)) :
   Calls Tryz.prog 29 #[.pointer (some ⟨gp,0,none⟩),.string (str nm)] w R:=by
 replace hlen:=hide hlen
 replace hcr:=hide hcr
 replace hR:=hide hR
 go_enter Tryz.func29,Tryz.ntmps29
 go_wp2_with fail
 refine hlen.out.mono ?_
 rintro e w1 ⟨rfl,rfl⟩
 go_wp2_with fail
 refine hcr.out.mono ?_
 intro e w2 h2
 have he:=hR.out e w2 h2
 subst he
 replace h2:=hide h2
 go_wp2_with fail
 first | exact h2.out | (go_ret; exact h2.out)
theorem open1_any (w : World) (cp gp : Nat) (nm : List UInt8) (hc : w.cell? ⟨cp,0,none⟩=some (.pointer (some ⟨gp,0,none⟩))) (h1 : w.cell? ⟨gp,1,none⟩=some (.string (str nm))) (hl : nm.length<=20) (R : Ending->World->Prop)
   (hth : ∀ q,Calls Tryz.prog 29 #[.pointer (some ⟨gp,0,none⟩),.string (str (dbN nm))] (w.drewN q) R) (hR : ∀ e w',R e w'->e=.returned (.int .i64 0)) :
   Calls Tryz.prog 28 #[.pointer (some ⟨cp,0,none⟩)] w R:=by
 have hdb:=hide (fun q => db_any (w.drewN q) gp nm h1 hl)
 replace hth:=hide hth
 replace hR:=hide hR
 go_enter Tryz.func28,Tryz.ntmps28
 go_wp2_with fail
 go_region_with (first
   | (go_at_call 30; refine (hdb.out 1).mono ?_; rintro e w3 ⟨rfl,rfl⟩)
   | (go_at_call 29; refine (hth.out 1).mono ?_; intro e w3 h3; have he:=hR.out e w3 h3; subst he; replace h3:=hide h3))
 all_goals
   go_wp2_with fail
   first | exact h3.out | (go_ret; exact h3.out)
theorem open2_any (w : World) (cp gp : Nat) (nm : List UInt8) (hc : w.cell? ⟨cp,0,none⟩=some (.pointer (some ⟨gp,0,none⟩))) (h1 : w.cell? ⟨gp,1,none⟩=some (.string (str nm))) (hl : nm.length<=20) (R : Ending->World->Prop)
   (hth : ∀ q,Calls Tryz.prog 29 #[.pointer (some ⟨gp,0,none⟩),.string (str (logN nm))] (w.drewN q) R) (hR : ∀ e w',R e w'->e=.returned (.int .i64 0)) :
   Calls Tryz.prog 31 #[.pointer (some ⟨cp,0,none⟩)] w R:=by
 have hdb:=hide (fun q => log_any (w.drewN q) gp nm h1 hl)
 replace hth:=hide hth
 replace hR:=hide hR
 go_enter Tryz.func31,Tryz.ntmps31
 go_wp2_with fail
 go_region_with (first
   | (go_at_call 32; refine (hdb.out 1).mono ?_; rintro e w3 ⟨rfl,rfl⟩)
   | (go_at_call 29; refine (hth.out 1).mono ?_; intro e w3 h3; have he:=hR.out e w3 h3; subst he; replace h3:=hide h3))
 all_goals
   go_wp2_with fail
   first | exact h3.out | (go_ret; exact h3.out)
def headC (st : PgS) : Array Value:=#[.int .i64 (st.many : Int),.int .i64 (st.free : Int),.int .i64 (st.roots 0 : Int),.int .i64 (st.roots 1 : Int),.int .i64 (st.roots 2 : Int),.int .i64 (st.roots 3 : Int),.int .i64 (st.roots 4 : Int),.int .i64 (st.roots 5 : Int),.int .i64 (st.roots 6 : Int),.int .i64 (st.roots 7 : Int)]
def rootsL (st : PgS) : List Nat:=[st.roots 0,st.roots 1,st.roots 2,st.roots 3,st.roots 4,st.roots 5,st.roots 6,st.roots 7]
def headL (st : PgS) : List UInt8:=([105,113,100,98] ++ leBs 4 [st.many,st.free]) ++ leBs 4 (rootsL st)
theorem headL_len (st : PgS) : (headL st).length=44:=by simp [headL,rootsL,leBs,leB_len]
theorem run_conv_mark (w : World) (g n c : Nat) (C : Array Value) (h : w.heap[g]?=some (.cells C 5 (0,0))) :
   ∃ w',(convert 37 37 (.slice (some ⟨g,0,none⟩) n c)).run Tryz.prog w=.ok (.slice (some ⟨g,0,none⟩) n c) w'/\(∀ i,w'.cell? ⟨g,i,none⟩=C[i]?)/\Only (fun j => j=g) w w':=by
 have hsh : w.shape? g=some (5,C.size):=by
   unfold World.shape?
   rw [h]
 have ht:=Tryz.underlying37
 have he:=Tryz.underlying5
 refine ⟨w.freeze ⟨g,C.size,none⟩ 1,?_,fun i => ?_,?_⟩
 · simp [convert,run_underlying ht,run_underlying he,markStringish,hsh]
 · have h2 : (w.freeze ⟨g,C.size,none⟩ 1).heap[g]?=some (.cells C 5 (C.size,C.size + 1)):=by
     unfold World.freeze
     rw [if_neg (by decide)]
     show (w.heap.modify g _)[g]?=_
     rw [Array.getElem?_modify,if_pos rfl,h]
     rfl
   exact cell_of_row _ g i C 5 _ h2
 · refine ⟨rfl, rfl, rfl, ?_, fun k hk hne => ?_⟩
   · unfold World.freeze
     rw [if_neg (by decide)]
     simp
   · unfold World.freeze
     rw [if_neg (by decide)]
     show (w.heap.modify g _)[k]?=_
     rw [Array.getElem?_modify,if_neg (fun e => hne e.symm)]
structure HbA (Wh wz : World) (bm bi : Nat) (st : PgS) : Prop where
 mark : RB wz wz.heap.size (some ⟨bm,0,none⟩) 4 [105,113,100,98]
 nm : RN wz wz.heap.size (some ⟨bi,0,none⟩) 2 [st.many,st.free]
 be : Below Wh.heap.size Wh wz
theorem rb_cells {w : World} {g m : Nat} {l : List UInt8} (h : ∀ i u,(bv l)[i]?=some u->w.cell? ⟨g,i,none⟩=some u) (hm : l.length=m) (hg : g < w.heap.size) : RB w w.heap.size (some ⟨g,0,none⟩) m l:=by
 refine ⟨by rw [bv_length,hm,Nat.mul_one],fun _ => ⟨_,rfl,hg,fun j u hj => ?_⟩⟩
 have e : (Addr.mk g 0 none).add j=⟨g,j,none⟩:=by
   unfold Addr.add
   by_cases h0 : j=0
   · subst h0; rfl
   · rw [if_neg h0]; simp
 rw [e]; exact h j u hj
theorem rn_cells {w : World} {g o m : Nat} {l : List Nat} (h : ∀ i u,(l.map encI)[i]?=some u->w.cell? ⟨g,o + i,none⟩=some u) (hm : l.length=m) (hg : g < w.heap.size) : RN w w.heap.size (some ⟨g,o,none⟩) m l:=by
 refine ⟨by simp [hm],fun _ => ⟨_,rfl,hg,fun j u hj => ?_⟩⟩
 have e : (Addr.mk g o none).add j=⟨g,o + j,none⟩:=Addr.add_mid g o j
 rw [e]; exact h j u hj
def convHead : Op:=Op.convert 37 37 (Operand.tmp 3)
set_option maxHeartbeats 2000000 in
theorem hbytes_any (w : World) (st : PgS) (hm : st.many<=65536) (hf : st.free<=65536) (hr : ∀ k,st.roots k<=65536) : Calls Tryz.prog 128 #[.agg (headC st)] w (BytesRet w (headL st)):=by
 obtain ⟨M,hM⟩ : ∃ M : Array Value,M=(bv [105,113,100,98]).toArray:=⟨_,rfl⟩
 obtain ⟨I,hI⟩ : ∃ I : Array Value,I=#[.int .i64 (st.many : Int),.int .i64 (st.free : Int)]:=⟨_,rfl⟩
 obtain ⟨Wh,hWh⟩ : ∃ Wh,Wh=w.alloc (.cells (headC st) 71):=⟨_,rfl⟩
 obtain ⟨h,hh⟩ : ∃ h,h=w.heap.size:=⟨_,rfl⟩
 have hsz : Wh.heap.size=h + 1:=by rw [hWh,World.size_alloc,hh]
 have hmkb : ∀ (wz : World) (g : Nat),(∀ i,wz.cell? ⟨g,i,none⟩=M[i]?)->g < wz.heap.size->RB wz wz.heap.size (some ⟨g,0,none⟩) 4 [105,113,100,98]:=fun wz g h1 h2 => rb_cells (fun i u hu => by rw [h1,hM]; simpa using hu) rfl h2
 have hmki : ∀ (wz : World) (g : Nat),(∀ i,wz.cell? ⟨g,i,none⟩=I[i]?)->g < wz.heap.size->RN wz wz.heap.size (some ⟨g,0,none⟩) 2 [st.many,st.free]:=fun wz g h1 h2 => rn_cells (fun i u hu => by rw [Nat.zero_add,h1,hI]; simpa [encI] using hu) rfl h2
 obtain ⟨w1,r1,c1,o1⟩:=run_conv_mark ((Wh.alloc (.cells M 5)).drew) (h + 1) 4 4 M (by have:=heap_alloc_new Wh (.cells M 5); rw [hsz] at this; exact this)
 obtain ⟨w2,r2,c2,o2⟩:=run_conv_mark (((Wh.alloc (.cells M 5)).alloc (.cells I 3)).drew) (h + 1) 4 4 M (by
   have h1:=heap_alloc_new Wh (.cells M 5)
   rw [hsz] at h1
   exact (Below.heap_alloc (Wh.alloc (.cells M 5)) (.cells I 3) (h + 1) (by rw [World.size_alloc,hsz]; omega)).trans h1)
 obtain ⟨w3,r3,c3,o3⟩:=run_conv_mark (((Wh.alloc (.cells I 3)).alloc (.cells M 5)).drew) (h + 2) 4 4 M (by
   have h1:=heap_alloc_new (Wh.alloc (.cells I 3)) (.cells M 5)
   rw [World.size_alloc,hsz] at h1
   exact h1)
 have gA : Hid (HbA Wh (w1.alloc (.cells I 3)) (h + 1) w1.heap.size st):=by
   refine hide ⟨hmkb _ _ (fun i => ?_) (by have:=o1.size; simp at this; simp; omega),hmki _ _ (fun i => ?_) (by simp),?_⟩
   · rw [World.cell?_alloc_lt _ _ _ (by show h + 1 < w1.heap.size; have:=o1.size; simp at this; omega)]; exact c1 i
   · exact (Blk.new w1 3 I).cell i
   · exact (((Below.refl Wh.heap.size Wh).alloc (Nat.le_refl _) (.cells M 5)).drew.trans (o1.below (fun k hk => by omega) (by simp))).alloc (by have:=o1.size; simp at this; omega) _
 have gB : Hid (HbA Wh w2 (h + 1) (h + 2) st):=by
   refine hide ⟨hmkb _ _ c2 (by have:=o2.size; simp at this; omega),hmki _ _ (fun i => ?_) (by have:=o2.size; simp at this; omega),?_⟩
   · have h1 := Blk.new (Wh.alloc (.cells M 5)) 3 I
     rw [World.size_alloc,hsz] at h1
     exact (o2.blk (show Blk ((Wh.alloc (.cells M 5)).alloc (.cells I 3)).drew (h + 2) 3 I from h1) (by omega)).cell i
   · exact (((Below.refl Wh.heap.size Wh).alloc (Nat.le_refl _) (.cells M 5)).alloc (by simp) (.cells I 3)).drew.trans (o2.below (fun k hk => by omega) (by simp; omega))
 have gC : Hid (HbA Wh w3 (h + 2) (h + 1) st):=by
   refine hide ⟨hmkb _ _ c3 (by have:=o3.size; simp at this; omega),hmki _ _ (fun i => ?_) (by have:=o3.size; simp at this; omega),?_⟩
   · have h1 := (Blk.new Wh 3 I).alloc (.cells M 5)
     rw [hsz] at h1
     exact (o3.blk (show Blk ((Wh.alloc (.cells I 3)).alloc (.cells M 5)).drew (h + 1) 3 I from h1) (by omega)).cell i
   · exact (((Below.refl Wh.heap.size Wh).alloc (Nat.le_refl _) (.cells I 3)).alloc (by simp) (.cells M 5)).drew.trans (o3.below (fun k hk => by omega) (by simp; omega))
 have hlw : Below w.heap.size w Wh:=by rw [hWh]; exact (Below.refl w.heap.size w).alloc (Nat.le_refl _) _
 have hhc : Blk Wh h 71 (headC st):=by rw [hWh,hh]; exact Blk.new w 71 _
 have hp : Hid (∀ wz bm bi,HbA Wh wz bm bi st->Calls Tryz.prog 70 #[.slice (some ⟨bm,0,none⟩) 4 4,.int .i64 4,.slice (some ⟨bi,0,none⟩) 2 2] wz fun e w' => ∃ A c,e=.returned (.slice A 12 c)/\Hid (RB w' w'.heap.size A 12 ([105,113,100,98] ++ leBs 4 [st.many,st.free])/\Below Wh.heap.size Wh w')):=hide fun wz bm bi hg => by
   refine (wput_any wz (some ⟨bm,0,none⟩) (some ⟨bi,0,none⟩) 4 4 2 2 4 _ [st.many,st.free] hg.mark hg.nm (by omega) (by omega) (by omega) (by omega) (by simp; omega)).mono ?_
   rintro e w' ⟨v,rfl,hO,hB⟩
   have e12 : ([105,113,100,98] ++ leBs 4 [st.many,st.free]).length=12:=by simp [leBs,leB_len]
   rw [e12] at hO
   obtain ⟨A,c,rfl,hr,_⟩:=hO.form
   exact ⟨A,c,rfl,hide ⟨hr,hg.be.trans (hB.mono hg.be.size)⟩⟩
 have hq : Hid (∀ wz A c,(RB wz wz.heap.size A 12 ([105,113,100,98] ++ leBs 4 [st.many,st.free])/\Below Wh.heap.size Wh wz)->Calls Tryz.prog 70 #[.slice A 12 c,.int .i64 4,.slice (some ⟨h,2,none⟩) 8 8] wz fun e w' => ∃ v,e=.returned v/\Hid (BytesRet w (headL st) (.returned v) w'/\Below Wh.heap.size Wh w')):=hide fun wz A c hg => by
   have hb8 : Blk wz h 71 (headC st):=hhc.below hg.2 (by omega)
   refine (wput_any wz A (some ⟨h,2,none⟩) 12 c 8 8 4 _ (rootsL st) hg.1 (rn_cells (fun i u hu => ?_) rfl hb8.lt) (by omega) (by omega) (by omega) (by omega) (fun x hx => ?_)).mono ?_
   · rw [hb8.cell]
     match i,hu with
     | 0,hu | 1,hu | 2,hu | 3,hu | 4,hu | 5,hu | 6,hu | 7,hu => exact hu
   · simp [rootsL] at hx
     have:=hr 0; have:=hr 1; have:=hr 2; have:=hr 3; have:=hr 4; have:=hr 5; have:=hr 6; have:=hr 7
     omega
   · rintro e w' ⟨v, rfl, hO, hB⟩
     have h1:=hg.2.trans (hB.mono hg.2.size)
     exact ⟨v,rfl,hide ⟨⟨v,rfl,hO.more (by have:=hg.2.size; omega),hlw.trans (h1.mono hlw.size)⟩,h1⟩⟩
 have hM2:=hM
 have e0 : ∀ wz,Below Wh.heap.size Wh wz->wz.cell? ⟨h,0,none⟩=some (.int .i64 (st.many : Int))/\wz.cell? ⟨h,1,none⟩=some (.int .i64 (st.free : Int)):=fun wz hz => ⟨(hhc.below hz (by omega)).cell 0,(hhc.below hz (by omega)).cell 1⟩
 obtain ⟨p0,p1⟩:=e0 Wh (Below.refl _ _)
 obtain ⟨p2,p3⟩:=e0 _ ((Below.refl Wh.heap.size Wh).alloc (Nat.le_refl _) (.cells M 5))
 obtain ⟨p4,p5⟩:=e0 w1 (((Below.refl Wh.heap.size Wh).alloc (Nat.le_refl _) (.cells M 5)).drew.trans (o1.below (fun k hk => by omega) (by simp)))
 obtain ⟨p6,p7⟩:=e0 w2 ((((Below.refl Wh.heap.size Wh).alloc (Nat.le_refl _) (.cells M 5)).alloc (by simp) (.cells I 3)).drew.trans (o2.below (fun k hk => by omega) (by simp; omega)))
 obtain ⟨p8,p9⟩:=e0 w3 ((((Below.refl Wh.heap.size Wh).alloc (Nat.le_refl _) (.cells I 3)).alloc (by simp) (.cells M 5)).drew.trans (o3.below (fun k hk => by omega) (by simp; omega)))
 have hkp:=hide e0
 have hM3 : M=#[.int .u8 105,.int .u8 113,.int .u8 100,.int .u8 98]:=by rw [hM]; rfl
 have hWh2 : Wh=w.alloc (.cells #[.int .i64 (st.many : Int),.int .i64 (st.free : Int),.int .i64 (st.roots 0 : Int),.int .i64 (st.roots 1 : Int),.int .i64 (st.roots 2 : Int),.int .i64 (st.roots 3 : Int),.int .i64 (st.roots 4 : Int),.int .i64 (st.roots 5 : Int),.int .i64 (st.roots 6 : Int),.int .i64 (st.roots 7 : Int)] 71):=hWh
 clear e0 hmkb hmki c1 c2 c3 hM2
 replace hhc:=hide hhc
 replace hM:=hide hM
 replace o1:=hide o1
 replace o2:=hide o2
 replace o3:=hide o3
 replace hlw:=hide hlw
 replace hWh:=hide hWh
 unfold headC
 go_enter Tryz.func128,Tryz.ntmps128
 go_wp2_with fail
 rw [<- hWh2,<- hh]
 replace hWh2:=hide hWh2
 replace hh:=hide hh
 subst hM3
 subst hI
 have hco : convHead=Op.convert 37 37 (Operand.tmp 3):=rfl
 rw [<- hco]
 go_region_held3 (fun w' => w'.cell? ⟨h,0,none⟩=some (.int .i64 (st.many : Int))/\w'.cell? ⟨h,1,none⟩=some (.int .i64 (st.free : Int))) (first | go_keep | (exact ⟨by assumption,by assumption⟩) | exact hkp.out _ hx6.out.2 | exact hkp.out _ hx5.out.2) (first
   | (go_at_call 70; refine (hq.out _ _ _ hx5.out).mono ?_; rintro e w6 ⟨v6,rfl,hx6⟩)
   | (go_at_call 70; refine (hp.out _ _ _ (by first | exact gA.out | exact gB.out | exact gC.out)).mono ?_; rintro e w5 ⟨A5,c5,rfl,hx5⟩))
 all_goals
   go_wp2_with fail
   go_ret
   exact hx6.out.1
def ChRaw (w : World) (gm : Nat) (m : Nat->Option Value) (no n : Nat) (l : List UInt8) (e : Ending) (w' : World) : Prop :=
 ∃ g c,e=.returned (.tuple #[])/\IMap w' gm 65536 (updO m no (some (.slice (some ⟨g,0,none⟩) n c)))/\OB w' w.heap.size (.slice (some ⟨g,0,none⟩) n c) n l/\Only (fun j => j=gm) w w'/\w.heap.size<=g
set_option maxHeartbeats 1000000 in
theorem change_raw (w : World) (gp gm : Nat) (m : Nat->Option Value) (c22 : w.cell? ⟨gp,22,none⟩=some (.map (some gm))) (hm : IMap w gm 65536 m) (no : Nat) (hno : no < 65536) (A : Option Addr) (n c : Nat) (l : List UInt8) (hn0 : 0 < n) (hn : n<=508) (hr : RB w w.heap.size A n l) :
   Calls Tryz.prog 117 #[.pointer (some ⟨gp,0,none⟩),.int .i64 (no : Int),.slice A n c] w (ChRaw w gm m no n l):=by
 have hll:=hr.len
 obtain ⟨i0,hi0,hz0,hz1,hz2⟩:=info_parts byte_info
 have hml:=hm.lt
 have hgl : gp < w.heap.size:=World.block_lt_of_cell? w _ c22
 obtain ⟨Z,hZ⟩ : ∃ Z : Array Value,Z=(bv (zeroB 508)).toArray:=⟨_,rfl⟩
 have hmk : ∀ wz : World,(Instr.makeSlice 37 (.int .i64 0) (.int .i64 508)).run Tryz.prog wz=.ok (.slice (some ⟨wz.heap.size,0,none⟩) 0 508) (wz.alloc (.cells Z 5)):=fun wz => by rw [hZ]; exact run_make508 wz 0 (by omega)
 have hown : OB (w.drew.alloc (.cells Z 5)) w.heap.size (.slice (some ⟨w.heap.size,0,none⟩) 0 508) 0 []:=by
   refine ⟨by simp [bv],.inr ⟨w.heap.size,508,Z,rfl,Nat.le_refl _,heap_alloc_new w.drew _,by omega,by simp [maxLen],?_,by simp [bv]⟩⟩
   rw [hZ]; simp [bv,zeroB]
 obtain ⟨v2,w2,hrun,hown2,hg2,hb2⟩:=run_append_any (P:=Tryz.prog) (w.drew.alloc (.cells Z 5)) w.heap.size 37 37 5 i0 _ 1 1 Tryz.underlying37 hi0 hz0 hz1 hz2 rfl (by omega) _ 0 (bv []) hown w.heap.size A n c (bv l)
   ((hr.drew).alloc (by exact Nat.le_refl _) _) (bv_one _) (by simp [maxLen]; omega) (by omega) (by simp)
 have hO2 : OB w2 w.heap.size v2 n l:=by
   have:=hown2
   unfold OB
   simpa [bv] using this
 have hB2 : Below w.heap.size w w2:=(((Below.refl w.heap.size w).drew).alloc (Nat.le_refl _) (.cells Z 5)).grown hg2 (by simp) (fun k hk => by simp [Value.ownBlock] at hk; omega)
 rcases hO2.parts with ⟨_,h0,_⟩ | ⟨g,cap,rfl,hc1,hc2⟩
 · omega
 have hg : w.heap.size<=g:=hO2.base_le
 have d22 : w2.cell? ⟨gp,22,none⟩=some (.map (some gm)):=(hB2.cell (p:=⟨gp,22,none⟩) hgl).trans c22
 obtain ⟨w3,hrun3,hm3,hg3⟩:=(hm.keep (hB2.block gm hml)).update no hno (by omega) (.slice (some ⟨g,0,none⟩) n cap)
 have hglt : g < w2.heap.size:=by
   rcases hO2.2 with ⟨h0,_⟩ | ⟨g',cap',cur,hv,_,hh,_⟩
   · cases h0
   · cases hv; exact Blk.lt hh
 have hgne : gm ≠ g:=by omega
 have hfin : Hid (ChRaw w gm m no n l (.returned (.tuple #[])) w3):=hide ⟨g,cap,rfl,hm3,hO2.same (hg3.block g hglt (fun e => by injection e with e; exact hgne e.symm)),(Only.of_below hB2).grown hg3 (fun k hk _ => by injection hk with hk; exact hk.symm),hg⟩
 obtain ⟨N,hN⟩ : ∃ N,N=n:=⟨_,rfl⟩
 clear hown2 hg2 hb2 hB2 hO2 hg3 hm3 hm hown hr
 replace hZ:=hide hZ
 go_enter Tryz.func117,Tryz.ntmps117
 go_region_law (refine Lib.wp_append_run _ (.tmp 11) (.tmp 12) 37 37 rfl _ _ rfl rfl _ _ hrun ?_)
 all_goals
   go_end0
   exact hfin.out
end Go.Proofs.YtiiljlmeililbaaGreatDoor
