/-
  Contracts of commit's six steps.
-/
import Derived.Test.YtiiljlmeililbaaGreatDoorBeGr37
import Derived.Test.YtiiljlmeililbaaGreatDoorBeGr36
import Derived.Lib.SlBytesConst
namespace Go.Proofs.YtiiljlmeililbaaGreatDoor
set_option linter.unusedVariables false
set_option maxRecDepth 100000
open Go.RowKit Go.Maps
set_option maxHeartbeats 1000000 in
theorem com1_any (w : World) (cp gp gf : Nat) (nm : List UInt8) (cb n c : Nat) (A : Option Addr) (hc : w.cell? ⟨cp,0,none⟩=some (.pointer (some ⟨gp,0,none⟩))) (h0 : w.cell? ⟨gp,0,none⟩=some (.pointer (some ⟨gf,0,none⟩))) (h1 : w.cell? ⟨gp,1,none⟩=some (.string (str nm))) (hl : nm.length<=20) (hb : w.cell? ⟨cb,0,none⟩=some (.slice A n c)) (R : Ending->World->Prop)
   (hth : ∀ q,Calls Tryz.prog 101 #[.pointer (some ⟨gf,0,none⟩),.string (str (logN nm)),.int .i64 0,.slice A n c] (w.drewN q) R) (hR : ∀ e w',R e w'->e=.returned (.int .i64 0)/\w'.cell? ⟨cp,0,none⟩=some (.pointer (some ⟨gp,0,none⟩))/\w'.cell? ⟨gp,0,none⟩=some (.pointer (some ⟨gf,0,none⟩))/\w'.cell? ⟨cb,0,none⟩=some (.slice A n c)) :
   Calls Tryz.prog 108 #[.pointer (some ⟨cp,0,none⟩),.pointer (some ⟨cb,0,none⟩)] w R:=by
 have hlg:=hide (fun q => log_any (w.drewN q) gp nm h1 hl)
 replace hth:=hide hth
 replace hR:=hide hR
 go_enter Tryz.func108,Tryz.ntmps108
 go_wp2_with fail
 go_region_held3 (fun w' => w'.cell? ⟨cp,0,none⟩=some (.pointer (some ⟨gp,0,none⟩))/\w'.cell? ⟨gp,0,none⟩=some (.pointer (some ⟨gf,0,none⟩))/\w'.cell? ⟨cb,0,none⟩=some (.slice A n c)) (first | exact ⟨hc,h0,hb⟩ | exact hS3) (first
   | (go_at_call 32; refine (hlg.out 1).mono ?_; rintro e w3 ⟨rfl,rfl⟩)
   | (go_at_call 101; refine (hth.out 1).mono ?_; intro e w3 h3; have he:=(hR.out e w3 h3).1; have hS3:=(hR.out e w3 h3).2; subst he; replace h3:=hide h3))
 all_goals
   go_wp2_with fail
   first | exact h3.out | (go_ret; exact h3.out)
set_option maxHeartbeats 1000000 in
theorem com2_any (w : World) (cp gp gf : Nat) (nm : List UInt8) (hc : w.cell? ⟨cp,0,none⟩=some (.pointer (some ⟨gp,0,none⟩))) (h0 : w.cell? ⟨gp,0,none⟩=some (.pointer (some ⟨gf,0,none⟩))) (h1 : w.cell? ⟨gp,1,none⟩=some (.string (str nm))) (hl : nm.length<=20) (R : Ending->World->Prop)
   (hth : ∀ q,Calls Tryz.prog 102 #[.pointer (some ⟨gf,0,none⟩),.string (str (logN nm))] (w.drewN q) R) (hR : ∀ e w',R e w'->e=.returned (.int .i64 0)/\w'.cell? ⟨cp,0,none⟩=some (.pointer (some ⟨gp,0,none⟩))/\w'.cell? ⟨gp,0,none⟩=some (.pointer (some ⟨gf,0,none⟩))) :
   Calls Tryz.prog 109 #[.pointer (some ⟨cp,0,none⟩)] w R:=by
 have hlg:=hide (fun q => log_any (w.drewN q) gp nm h1 hl)
 replace hth:=hide hth
 replace hR:=hide hR
 go_enter Tryz.func109,Tryz.ntmps109
 go_wp2_with fail
 go_region_held3 (fun w' => w'.cell? ⟨cp,0,none⟩=some (.pointer (some ⟨gp,0,none⟩))/\w'.cell? ⟨gp,0,none⟩=some (.pointer (some ⟨gf,0,none⟩))) (first | exact ⟨hc,h0⟩ | exact hS3) (first
   | (go_at_call 32; refine (hlg.out 1).mono ?_; rintro e w3 ⟨rfl,rfl⟩)
   | (go_at_call 102; refine (hth.out 1).mono ?_; intro e w3 h3; have he:=(hR.out e w3 h3).1; have hS3:=(hR.out e w3 h3).2; subst he; replace h3:=hide h3))
 all_goals
   go_wp2_with fail
   first | exact h3.out | (go_ret; exact h3.out)
set_option maxHeartbeats 1000000 in
theorem com4_any (w : World) (cp gp gf : Nat) (nm : List UInt8) (hc : w.cell? ⟨cp,0,none⟩=some (.pointer (some ⟨gp,0,none⟩))) (h0 : w.cell? ⟨gp,0,none⟩=some (.pointer (some ⟨gf,0,none⟩))) (h1 : w.cell? ⟨gp,1,none⟩=some (.string (str nm))) (hl : nm.length<=20) (R : Ending->World->Prop)
   (hth : ∀ q,Calls Tryz.prog 102 #[.pointer (some ⟨gf,0,none⟩),.string (str (logN nm))] (w.drewN q) R) (hR : ∀ e w',R e w'->e=.returned (.int .i64 0)/\w'.cell? ⟨cp,0,none⟩=some (.pointer (some ⟨gp,0,none⟩))/\w'.cell? ⟨gp,0,none⟩=some (.pointer (some ⟨gf,0,none⟩))) :
   Calls Tryz.prog 111 #[.pointer (some ⟨cp,0,none⟩)] w R:=by
 have hlg:=hide (fun q => log_any (w.drewN q) gp nm h1 hl)
 replace hth:=hide hth
 replace hR:=hide hR
 go_enter Tryz.func111,Tryz.ntmps111
 go_wp2_with fail
 go_region_held3 (fun w' => w'.cell? ⟨cp,0,none⟩=some (.pointer (some ⟨gp,0,none⟩))/\w'.cell? ⟨gp,0,none⟩=some (.pointer (some ⟨gf,0,none⟩))) (first | exact ⟨hc,h0⟩ | exact hS3) (first
   | (go_at_call 32; refine (hlg.out 1).mono ?_; rintro e w3 ⟨rfl,rfl⟩)
   | (go_at_call 102; refine (hth.out 1).mono ?_; intro e w3 h3; have he:=(hR.out e w3 h3).1; have hS3:=(hR.out e w3 h3).2; subst he; replace h3:=hide h3))
 all_goals
   go_wp2_with fail
   first | exact h3.out | (go_ret; exact h3.out)
set_option maxHeartbeats 1000000 in
theorem com6_any (w : World) (cp gp gf : Nat) (nm : List UInt8) (hc : w.cell? ⟨cp,0,none⟩=some (.pointer (some ⟨gp,0,none⟩))) (h0 : w.cell? ⟨gp,0,none⟩=some (.pointer (some ⟨gf,0,none⟩))) (h1 : w.cell? ⟨gp,1,none⟩=some (.string (str nm))) (hl : nm.length<=20) (R : Ending->World->Prop)
   (hth : ∀ q,Calls Tryz.prog 65 #[.pointer (some ⟨gf,0,none⟩),.string (str (logN nm)),.int .i64 0] (w.drewN q) R) (hR : ∀ e w',R e w'->e=.returned (.int .i64 0)/\w'.cell? ⟨cp,0,none⟩=some (.pointer (some ⟨gp,0,none⟩))/\w'.cell? ⟨gp,0,none⟩=some (.pointer (some ⟨gf,0,none⟩))) :
   Calls Tryz.prog 113 #[.pointer (some ⟨cp,0,none⟩)] w R:=by
 have hlg:=hide (fun q => log_any (w.drewN q) gp nm h1 hl)
 replace hth:=hide hth
 replace hR:=hide hR
 go_enter Tryz.func113,Tryz.ntmps113
 go_wp2_with fail
 go_region_held3 (fun w' => w'.cell? ⟨cp,0,none⟩=some (.pointer (some ⟨gp,0,none⟩))/\w'.cell? ⟨gp,0,none⟩=some (.pointer (some ⟨gf,0,none⟩))) (first | exact ⟨hc,h0⟩ | exact hS3) (first
   | (go_at_call 32; refine (hlg.out 1).mono ?_; rintro e w3 ⟨rfl,rfl⟩)
   | (go_at_call 65; refine (hth.out 1).mono ?_; intro e w3 h3; have he:=(hR.out e w3 h3).1; have hS3:=(hR.out e w3 h3).2; subst he; replace h3:=hide h3))
 all_goals
   go_wp2_with fail
   first | exact h3.out | (go_ret; exact h3.out)
theorem com5_any (w : World) (cp gp cl : Nat) (v : Value) (hc : w.cell? ⟨cp,0,none⟩=some (.pointer (some ⟨gp,0,none⟩))) (hb : w.cell? ⟨cl,0,none⟩=some v) (R : Ending->World->Prop)
   (hth : Calls Tryz.prog 64 #[.pointer (some ⟨gp,0,none⟩),v] w R) (hR : ∀ e w',R e w'->e=.returned (.int .i64 0)) :
   Calls Tryz.prog 112 #[.pointer (some ⟨cp,0,none⟩),.pointer (some ⟨cl,0,none⟩)] w R:=by
 replace hth:=hide hth
 replace hR:=hide hR
 go_enter Tryz.func112,Tryz.ntmps112
 go_wp2_with fail
 refine hth.out.mono ?_
 intro e w3 h3
 have he:=hR.out e w3 h3
 subst he
 replace h3:=hide h3
 go_wp2_with fail
 first | exact h3.out | (go_ret; exact h3.out)
def doneC : Array Value:=#[.int .u8 100,.int .u8 111,.int .u8 110,.int .u8 101]
def doneO : Obj:=.cells doneC 5 (4,5)
def convDone : Op:=Op.convert 37 37 (Operand.tmp 11)
set_option maxHeartbeats 1000000 in
theorem com3_any (w : World) (cp gp gf : Nat) (nm : List UInt8) (cb n c : Nat) (A : Option Addr) (hc : w.cell? ⟨cp,0,none⟩=some (.pointer (some ⟨gp,0,none⟩))) (h0 : w.cell? ⟨gp,0,none⟩=some (.pointer (some ⟨gf,0,none⟩))) (h1 : w.cell? ⟨gp,1,none⟩=some (.string (str nm))) (hl : nm.length<=20) (hb : w.cell? ⟨cb,0,none⟩=some (.slice A n c)) (R : Ending->World->Prop)
   (hth : ∀ q,Calls Tryz.prog 101 #[.pointer (some ⟨gf,0,none⟩),.string (str (logN nm)),.int .i64 (n : Int),.slice (some ⟨w.heap.size,0,none⟩) 4 4] ((w.alloc doneO).drewN q) R)
   (hR : ∀ e w',R e w'->e=.returned (.int .i64 0)/\w'.cell? ⟨cp,0,none⟩=some (.pointer (some ⟨gp,0,none⟩))/\w'.cell? ⟨gp,0,none⟩=some (.pointer (some ⟨gf,0,none⟩))/\w'.cell? ⟨cb,0,none⟩=some (.slice A n c)) :
   Calls Tryz.prog 110 #[.pointer (some ⟨cp,0,none⟩),.pointer (some ⟨cb,0,none⟩)] w R:=by
 have l1:=World.block_lt_of_cell? w _ hc
 have l2:=World.block_lt_of_cell? w _ h0
 have l3:=World.block_lt_of_cell? w _ hb
 have hall : ∀ o,(w.alloc o).cell? ⟨cp,0,none⟩=some (.pointer (some ⟨gp,0,none⟩))/\(w.alloc o).cell? ⟨gp,0,none⟩=some (.pointer (some ⟨gf,0,none⟩))/\(w.alloc o).cell? ⟨cb,0,none⟩=some (.slice A n c):=fun o =>
   ⟨by rw [World.cell?_alloc_lt _ _ _ l1]; exact hc,by rw [World.cell?_alloc_lt _ _ _ l2]; exact h0,by rw [World.cell?_alloc_lt _ _ _ l3]; exact hb⟩
 have hlg : Hid (Calls Tryz.prog 32 #[.pointer (some ⟨gp,0,none⟩)] w.drew fun e w' => e=.returned (.string (str (logN nm)))/\w.drew=w'):=hide (log_any w.drew gp nm h1 hl)
 have hlo : Hid (∀ o,Calls Tryz.prog 32 #[.pointer (some ⟨gp,0,none⟩)] ((w.alloc o).drew) fun e w' => e=.returned (.string (str (logN nm)))/\(w.alloc o).drew=w'):=hide fun o => log_any _ gp nm (by show (w.alloc o).cell? _=_; rw [World.cell?_alloc_lt w o ⟨gp,1,none⟩ l2]; exact h1) hl
 have kc : (convert 37 37 (.slice (some ⟨w.heap.size,0,none⟩) 4 4)).run Tryz.prog ((w.alloc (.cells doneC 5)).drew)=.ok (.slice (some ⟨w.heap.size,0,none⟩) 4 4) ((w.alloc doneO).drew):=Lib.run_convert_bytes_const (P:=Tryz.prog) w.drew 37 5 doneC 4 4 Tryz.underlying37 Tryz.underlying5
 unfold doneC at kc
 replace hth:=hide hth
 replace hR:=hide hR
 replace hall:=hide hall
 go_enter Tryz.func110,Tryz.ntmps110
 go_wp2_with fail
 have hco : convDone=Op.convert 37 37 (Operand.tmp 11):=rfl
 rw [<- hco]
 go_region_held3 (fun w' => w'.cell? ⟨cp,0,none⟩=some (.pointer (some ⟨gp,0,none⟩))/\w'.cell? ⟨gp,0,none⟩=some (.pointer (some ⟨gf,0,none⟩))/\w'.cell? ⟨cb,0,none⟩=some (.slice A n c)) (first | exact ⟨hc,h0,hb⟩ | exact hall.out _ | exact hS3) (first
   | (go_at_call 32; refine hlg.out.mono ?_; rintro e w3 ⟨rfl,rfl⟩)
   | (go_at_call 32; refine (hlo.out _).mono ?_; rintro e w3 ⟨rfl,rfl⟩)
   | (go_at_call 101; refine (hth.out 1).mono ?_; intro e w3 h3; have he:=(hR.out e w3 h3).1; have hS3:=(hR.out e w3 h3).2; subst he; replace h3:=hide h3))
 all_goals
   go_wp2_with fail
   first | exact h3.out | (go_ret; exact h3.out)
def LyRet (w : World) (H0 gf bm most stamp : Nat) (da la : List UInt8) (gd gl kl nl : Nat) (vl : Value) (e : Ending) (w' : World) : Prop :=
 e=.returned (.int .i64 0)/\Hid (∃ vd',FSt w' H0 gf bm most stamp da la gd 8 512 gl kl nl vd' vl/\FsO w w'/\Fr H0 gf bm w w')
theorem src_page {w : World} {gs : Nat} {p : List UInt8} (hp : Blk w gs 228 (bv p).toArray) (hpl : p.length=512) : SrcB w gs 512 :=
 ⟨fun i hi => ⟨p[i]'(by omega),by rw [hp.cell]; have:=bv_get (l:=p) (k:=i) (by omega); simpa using this⟩,228,_,(0,0),hp,by decide,by decide,by decide⟩
set_option maxHeartbeats 2000000 in
theorem lay_one (w : World) (H0 gf bm most stamp gd gl kl nl gp gw c gs : Nat) (nm p : List UInt8) (vd vl : Value) (cs : Array Value) (h : FSt w H0 gf bm most stamp (dbN nm) (logN nm) gd 0 0 gl kl nl vd vl) (hnm : nm.length<=20) (hmost : most<=65536) (hk : kl + 8<=most) (hst : stamp<=900000)
   (hpg : Blk w gp 73 cs) (hc0 : cs[0]?=some (ptrV gf)) (hc1 : cs[1]?=some (.string (str nm)))
   (h0 : w.cell? ⟨gw,0,none⟩=some (.int .i64 0)) (h1 : w.cell? ⟨gw,1,none⟩=some (.slice (some ⟨gs,0,none⟩) 512 512)) (hp : Blk w gs 228 (bv p).toArray) (hpl : p.length=512) :
   Calls Tryz.prog 64 #[.pointer (some ⟨gp,0,none⟩),.slice (some ⟨gw,0,none⟩) 1 c] w (LyRet w H0 gf bm most (stamp + 1) (dbN nm) (logN nm) gd gl kl nl vl):=by
 have hdl : (dbN nm).length<=24:=by simp [dbN]; omega
 obtain ⟨W1,hW1⟩ : ∃ W1,W1=w.alloc (.cells #[.int .i64 0,.slice (some ⟨gs,0,none⟩) 512 512] 167):=⟨_,rfl⟩
 obtain ⟨g6,hg6⟩ : ∃ g6,g6=w.heap.size:=⟨_,rfl⟩
 have hB1 : Below w.heap.size w W1:=by rw [hW1]; exact (Below.refl w.heap.size w).alloc (Nat.le_refl _) _
 have hF1:=h.below hB1
 have hpg1:=hpg.below hB1 hpg.lt
 have hp1:=hp.below hB1 hp.lt
 have hcp : Blk W1 g6 167 #[.int .i64 0,.slice (some ⟨gs,0,none⟩) 512 512]:=by rw [hW1,hg6]; exact Blk.new w 167 _
 have a0 : W1.cell? ⟨gp,0,none⟩=some (.pointer (some ⟨gf,0,none⟩)):=(hpg1.cell 0).trans hc0
 have a1 : W1.cell? ⟨gp,1,none⟩=some (.string (str nm)):=(hpg1.cell 1).trans hc1
 have a2 : W1.cell? ⟨g6,0,none⟩=some (.int .i64 0):=hcp.cell 0
 have a3 : W1.cell? ⟨g6,1,none⟩=some (.slice (some ⟨gs,0,none⟩) 512 512):=hcp.cell 1
 have hdb:=hide (db_any W1.drew gp nm a1 hnm)
 have hwr : Hid (Calls Tryz.prog 101 #[.pointer (some ⟨gf,0,none⟩),.string (str (dbN nm)),.int .i64 0,.slice (some ⟨gs,0,none⟩) 512 512] W1.drew fun e w' => e=.returned (.int .i64 0)/\Hid (LyRet w H0 gf bm most (stamp + 1) (dbN nm) (logN nm) gd gl kl nl vl (.returned (.int .i64 0)) w'/\w'.cell? ⟨gp,0,none⟩=some (.pointer (some ⟨gf,0,none⟩))/\w'.cell? ⟨gp,1,none⟩=some (.string (str nm))/\w'.cell? ⟨g6,0,none⟩=some (.int .i64 0)/\w'.cell? ⟨g6,1,none⟩=some (.slice (some ⟨gs,0,none⟩) 512 512))):=by
   have h9:=write_d W1.drew H0 gf bm most stamp gd 0 0 gl kl nl gs 512 512 0 (dbN nm) (logN nm) vd vl (hF1.drewN 1) hdl hmost (by omega) (by omega) (by omega) (by omega) (by omega) (by omega) (by omega) (by omega) (by omega) (src_page (w:=W1.drew) hp1 hpl)
   refine hide (h9.mono ?_)
   rintro e w' ⟨rfl,h2⟩
   obtain ⟨vd',f1,f2,f3⟩:=h2.out
   have hpg2:=FsO.blk f2 (Blk.drew hpg1) (by decide) (by decide) (by decide)
   have hcp2:=FsO.blk f2 (Blk.drew hcp) (by decide) (by decide) (by decide)
   have hWf : Below w.heap.size w W1.drew:=hB1.drew
   refine ⟨rfl,hide ⟨⟨rfl,hide ⟨vd',f1,(FsO.of_below hWf).trans f2,(Only.of_below hWf).trans f3 fun _ _ h => h⟩⟩,(hpg2.cell 0).trans hc0,(hpg2.cell 1).trans hc1,hcp2.cell 0,hcp2.cell 1⟩⟩
 replace hg6:=hg6
 replace h:=hide h
 replace hF1:=hide hF1
 replace hpg:=hide hpg
 replace hpg1:=hide hpg1
 replace hp:=hide hp
 replace hp1:=hide hp1
 replace hcp:=hide hcp
 replace hB1:=hide hB1
 go_enter Tryz.func64,Tryz.ntmps64
 go_wp2_with fail
 go_loopw [6,7,10] (fun _ _ v10 wx => (v10=.int .i64 0/\wx=w) \/ (v10=.int .i64 1/\Hid (LyRet w H0 gf bm most (stamp + 1) (dbN nm) (logN nm) gd gl kl nl vl (.returned (.int .i64 0)) wx/\wx.cell? ⟨gp,0,none⟩=some (.pointer (some ⟨gf,0,none⟩))/\wx.cell? ⟨gp,1,none⟩=some (.string (str nm))))) (fun _ _ v10 _ => 1 - (intOf v10).toNat)
 case atStart => exact .inl ⟨rfl,rfl⟩
 case round =>
   rcases hrel with ⟨rfl,rfl⟩ | ⟨rfl,hH⟩
   · go_upto_region 4 with (fail)
     rw [<- hW1,<- hg6]
     replace hW1:=hide hW1
     replace hg6:=hide hg6
     go_region_held3 (fun w' => w'.cell? ⟨gp,0,none⟩=some (.pointer (some ⟨gf,0,none⟩))/\w'.cell? ⟨g6,0,none⟩=some (.int .i64 0)/\w'.cell? ⟨g6,1,none⟩=some (.slice (some ⟨gs,0,none⟩) 512 512)) (first | exact ⟨a0,a2,a3⟩ | exact ⟨h5.out.2.1,h5.out.2.2.2.1,h5.out.2.2.2.2⟩) (first
       | (go_at_call 30; refine hdb.out.mono ?_; rintro e w3 ⟨rfl,rfl⟩)
       | (go_at_call 101; refine hwr.out.mono ?_; rintro e w5 ⟨rfl,h5⟩))
     all_goals
       go_wp2_with fail
       go_roundw
       case rel => exact .inr ⟨rfl,hide ⟨h5.out.1,h5.out.2.1,h5.out.2.2.1⟩⟩
       case measure => simp [intOf]
   · obtain ⟨hL, b0, b1⟩ := hH.out
     obtain ⟨_,hL2⟩:=hL
     obtain ⟨vd',f1,f2,f3⟩:=hL2.out
     have hdb2:=hide (db_any wr.drew gp nm b1 hnm)
     have hpg2:=FsO.blk f2 hpg.out (by decide) (by decide) (by decide)
     have hsy : Hid (Calls Tryz.prog 102 #[.pointer (some ⟨gf,0,none⟩),.string (str (dbN nm))] wr.drew fun e w' => e=.returned (.int .i64 0)/\Hid (LyRet w H0 gf bm most (stamp + 1) (dbN nm) (logN nm) gd gl kl nl vl (.returned (.int .i64 0)) w'/\w'.cell? ⟨gp,0,none⟩=some (.pointer (some ⟨gf,0,none⟩)))):=by
       refine hide ((sync_d wr.drew H0 gf bm most (stamp + 1) gd 8 512 gl kl nl (dbN nm) (logN nm) vd' vl (f1.drewN 1) hdl (by omega)).mono ?_)
       rintro e w' ⟨rfl,h2⟩
       obtain ⟨k1,k2,k3⟩:=h2.out
       have hpg3:=FsO.blk k2 (Blk.drew hpg2) (by decide) (by decide) (by decide)
       have hWf : Below wr.heap.size wr wr.drew:=(Below.refl _ _).drew
       exact ⟨rfl,hide ⟨⟨rfl,hide ⟨vd',k1,f2.trans ((FsO.of_below hWf).trans k2),f3.trans ((Only.of_below hWf).trans k3 fun _ _ h => h)⟩⟩,(hpg3.cell 0).trans hc0⟩⟩
     replace hpg2:=hide hpg2
     replace f1:=hide f1
     replace f2 : Hid _:=hide f2
     replace f3 : Hid _:=hide f3
     go_wp2_with fail
     go_region_held3 (fun w' => w'.cell? ⟨gp,0,none⟩=some (.pointer (some ⟨gf,0,none⟩))) (first | exact b0 | exact h5.out.2) (first
       | (go_at_call 30; refine hdb2.out.mono ?_; rintro e w3 ⟨rfl,rfl⟩)
       | (go_at_call 102; refine hsy.out.mono ?_; rintro e w5 ⟨rfl,h5⟩))
     all_goals
       go_wp2_with fail
       go_ret
       exact h5.out.1
end Go.Proofs.YtiiljlmeililbaaGreatDoor
