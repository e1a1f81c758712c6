/-
  Contracts of the pager's page, change.
-/
import Derived.Test.YtiiljlmeililbaaGreatDoorBeGr5
import Derived.Test.YtiiljlmeililbaaGreatDoorBeGr7
import Derived.Test.YtiiljlmeililbaaGreatDoorBeGr10
import Derived.Deep.RegionLaw
namespace Go.Proofs.YtiiljlmeililbaaGreatDoor
set_option linter.unusedVariables false
set_option maxRecDepth 100000
open Go.RowKit Go.Maps
def PageEnd (F : Nat->Prop) (w : World) (gp : Nat) (st : PgS) (no : Nat) (e : Ending) (w' : World) : Prop :=
 ∃ F' g c,e=.returned (.tuple #[.slice (some ⟨g,0,none⟩) 508 c,.int .i64 0])/\PgAt w' F' gp st/\Ev F w F' w'/\F' g/\OB w' 0 (.slice (some ⟨g,0,none⟩) 508 c) 508 (st.page no)
theorem page_any (w : World) (F : Nat->Prop) (gp : Nat) (st : PgS) (h : PgAt w F gp st) (no : Nat) (hn : st.has no) :
   Calls Tryz.prog 55 #[.pointer (some ⟨gp,0,none⟩),.int .i64 (no : Int)] w (PageEnd F w gp st no):=by
 obtain ⟨gm,U,m,hb,hgm,hm,hp⟩:=h.mem
 have c22 : w.cell? ⟨gp,22,none⟩=some (.map (some gm)):=hb.cell 22
 obtain ⟨g,c,h1,h2,h3⟩:=hp no hn (fun e => by have:=hn.1; omega)
 have hl:=hm.look no (by have:=hn.2; have:=h.most; omega) (by omega)
 rw [h1] at hl
 have hl2 : (Instr.lookup 68 (.map (some gm)) (.int .i64 (no : Int)) true).run Tryz.prog w=.ok (.tuple #[.slice (some ⟨g,0,none⟩) 508 c,.bool true]) w:=hl
 clear hl hb hp
 replace h:=hide h
 replace hm:=hide hm
 replace h1:=hide h1
 replace h3:=hide h3
 go_enter Tryz.func55,Tryz.ntmps55
 go_wp2_with fail
 go_ret2
 exact ⟨F,g,c,rfl,h.out,Ev.refl F w,h2,h3.out⟩
theorem OB.rb {w : World} {base n g c : Nat} {l : List UInt8} (h : OB w base (.slice (some ⟨g,0,none⟩) n c) n l) : RB w w.heap.size (some ⟨g,0,none⟩) n l/\n<=c/\c<=maxLen:=by
 obtain ⟨A,c',e,hr,_,h1,h2⟩:=h.form
 cases e
 exact ⟨hr,h1,h2⟩
theorem made_b (n : Nat) : (bv (zeroB n)).toArray=madeCells (Value.int .u8 0).cells (n * 1):=by
 apply Array.ext
 · simp [madeCells,bv,zeroB]
 · intro i h1 h2
   simp [madeCells,bv,zeroB,Value.cells,Nat.mod_one]
theorem run_make508 (w : World) (n : Nat) (hn : n<=508) : (Instr.makeSlice 37 (.int .i64 (n : Int)) (.int .i64 508)).run Tryz.prog w=.ok (.slice (some ⟨w.heap.size,0,none⟩) n 508) (w.alloc (.cells (bv (zeroB 508)).toArray 5)):=by
 obtain ⟨i0,hi0,hz0,hz1,hz2⟩:=info_parts byte_info
 have h:=run_make_rowN (P:=Tryz.prog) 37 5 i0 (.int .u8 0) Tryz.underlying37 hi0 hz0 .i64 .i64 n 508 hn (by rw [hz2]; omega) (by omega) w
 rw [hz1] at h
 rw [made_b]
 exact h
def ChangeEnd (F : Nat->Prop) (w : World) (gp : Nat) (st : PgS) (no : Nat) (l : List UInt8) (e : Ending) (w' : World) : Prop :=
 e=.returned (.tuple #[])/\∃ F',PgAt w' F' gp (st.upd no l)/\Ev F w F' w'
set_option maxHeartbeats 1000000 in
theorem change_any (x : Nat) (w : World) (F : Nat->Prop) (gp : Nat) (st : PgS) (h : PgX x w F gp st) (no : Nat) (hx : x=0 \/ x=no) (hn : st.has no) (A : Option Addr) (c : Nat) (l : List UInt8) (hr : RB w w.heap.size A 508 l) :
   Calls Tryz.prog 117 #[.pointer (some ⟨gp,0,none⟩),.int .i64 (no : Int),.slice A 508 c] w (ChangeEnd F w gp st no l):=by
 obtain ⟨gm,U,m,hb,hgm,hm,hp⟩:=h.mem
 have hll:=hr.len
 obtain ⟨i0,hi0,hz0,hz1,hz2⟩:=info_parts byte_info
 have c22 : w.cell? ⟨gp,22,none⟩=some (.map (some gm)):=hb.cell 22
 have hgl:=hb.lt
 have hml:=hm.lt
 obtain ⟨Z,hZ⟩ : ∃ Z : Array Value,Z=(bv (zeroB 508)).toArray:=⟨_,rfl⟩
 have hmk : ∀ wz : World,(Instr.makeSlice 37 (.int .i64 0) (.int .i64 508)).run Tryz.prog wz=.ok (.slice (some ⟨wz.heap.size,0,none⟩) 0 508) (wz.alloc (.cells Z 5)):=fun wz => by rw [hZ]; exact run_make508 wz 0 (by omega)
 have hown : OB (w.drew.alloc (.cells Z 5)) w.heap.size (.slice (some ⟨w.heap.size,0,none⟩) 0 508) 0 []:=by
   refine ⟨by simp [bv],.inr ⟨w.heap.size,508,Z,rfl,Nat.le_refl _,heap_alloc_new w.drew _,by omega,by simp [maxLen],?_,by simp [bv]⟩⟩
   rw [hZ]; simp [bv,zeroB]
 obtain ⟨v2,w2,hrun,hown2,hg2,hb2⟩:=run_append_any (P:=Tryz.prog) (w.drew.alloc (.cells Z 5)) w.heap.size 37 37 5 i0 _ 1 1 Tryz.underlying37 hi0 hz0 hz1 hz2 rfl (by omega) _ 0 (bv []) hown w.heap.size A 508 c (bv l)
   ((hr.drew).alloc (by exact Nat.le_refl _) _) (bv_one _) (by simp [maxLen]) (by omega) (by simp)
 have hO2 : OB w2 w.heap.size v2 508 l:=by
   have:=hown2
   unfold OB
   simpa [bv] using this
 have hB2 : Below w.heap.size w w2:=(((Below.refl w.heap.size w).drew).alloc (Nat.le_refl _) (.cells Z 5)).grown hg2 (by simp) (fun k hk => by simp [Value.ownBlock] at hk; omega)
 rcases hO2.parts with ⟨_,h0,_⟩ | ⟨g,cap,rfl,hc1,hc2⟩
 · omega
 have hg : w.heap.size<=g:=hO2.base_le
 have d22 : w2.cell? ⟨gp,22,none⟩=some (.map (some gm)):=(hB2.cell (p:=⟨gp,22,none⟩) hgl).trans c22
 obtain ⟨w3,hrun3,hm3,hg3⟩:=(hm.keep (hB2.block gm hml)).update no (by have:=hn.2; have:=h.most; omega) (by omega) (.slice (some ⟨g,0,none⟩) 508 cap)
 have hE : Ev F w (plus F g) w3:=⟨((Ev.of_below (F:=F) hB2).grown hg3 (fun k hk => by cases hk; exact hgm)).only,fun k (hk : F k \/ k=g) => hk.elim .inl fun e => .inr (by omega)⟩
 have hgne : gm ≠ g:=by omega
 have hglt : g < w2.heap.size:=by
   rcases hO2.2 with ⟨h0,_⟩ | ⟨g',cap',cur,hv,_,hh,_⟩
   · cases h0
   · cases hv; exact Blk.lt hh
 have hP : PgAt w3 (plus F g) gp (st.upd no l):=by
   refine ⟨h.one,h.most,fun k hk => ?_,.inl h.own,gm,U,_,?_,.inl hgm,hm3,fun j hj hx0 => ?_⟩
   · have h1 := hE.size
     have h2:=hg3.size
     rcases hk with hk | hk
     · have:=h.lt k hk; omega
     · omega
   · have hb3 : Blk w2 gp 73 (pgC gm st U) := (hB2.block gp hgl).trans hb
     exact hb3.grown hg3 (fun e => by injection e with e; exact hm.ne hb e.symm)
   · unfold updO
     by_cases e : j=no
     · subst e
       rw [if_pos rfl]
       refine ⟨g,cap,rfl,.inr rfl,?_⟩
       show OB w3 0 _ 508 (if j=j then l else st.page j)
       rw [if_pos rfl]
       exact (hO2.more (Nat.zero_le _)).same (hg3.block g hglt (fun e => by injection e with e; exact hgne e.symm))
     · rw [if_neg e]
       obtain ⟨g1,c1,h1,h2,h3⟩:=hp j hj (fun e2 => by rcases hx with hx | hx <;> omega)
       refine ⟨g1,c1,h1,.inl h2,?_⟩
       show OB w3 0 _ 508 (if j=no then l else st.page j)
       rw [if_neg e]
       have hlt:=h.lt g1 h2
       have h4:=h3.same (hB2.block g1 hlt)
       exact h4.same (hg3.block g1 (by have:=hB2.size; omega) (fun e => by
         injection e with e
         rcases h3.2 with ⟨h0,_⟩ | ⟨g',cap',cur,hv,_,hh,_⟩
         · cases h0
         · cases hv; exact hm.ne (show Blk w g1 5 cur from hh) e.symm))
 have hfin:=hide (And.intro hP hE)
 clear hP hE hown2 hg2 hb2 hB2 hO2 hg3 hm3 hm hp hb hown hr
 replace h:=hide h
 replace hZ:=hide hZ
 go_enter Tryz.func117,Tryz.ntmps117
 go_region_law (refine Lib.wp_append_run _ (.tmp 11) (.tmp 12) 37 37 rfl _ _ rfl rfl _ _ hrun ?_)
 all_goals
   go_end0
   exact ⟨rfl,_,hfin.out.1,hfin.out.2⟩
theorem sclone_any (A : Option Addr) (n c : Nat) (xs : List UInt8) (w : World) (ha : RB w w.heap.size A n xs) (hn : n<=140737488351232) :
   Calls Tryz.prog 118 #[.slice A n c] w (RetB w xs):=by
 have hnil:=fun wx => Lib.run_eql_slice_nil (P:=Tryz.prog) wx 37 5 A n c 0 0 Tryz.underlying37
 rcases A with _ | ad
 · have hn0 : n=0:=by
     rcases Nat.eq_zero_or_pos n with h0 | h0
     · exact h0
     · obtain ⟨ad,h,_⟩:=ha.2 h0; cases h
   subst hn0
   have hx : xs=[]:=List.eq_nil_of_length_eq_zero ha.len
   subst hx
   clear ha
   go_enter Tryz.func118,Tryz.ntmps118
   go_wp2
   go_ret
   exact RetB.mk (OB.nil _ _) (Below.refl _ _)
 · have HA := hide ha
   clear ha
   go_enter Tryz.func118,Tryz.ntmps118
   go_wp2_with (at_builtin; refine wpList_app_b rfl (.tmp 5) (.tmp 6) rfl w.heap.size _ 0 [] (OB.empty w (Nat.le_refl _)) rfl w.heap.size (some ad) n c xs rfl (HA.out.alloc (Nat.le_refl _) _) (by omega) (by simp) ?_; intro v1 w1 hown1 hb1 hg1 hat1)
   go_ret
   exact RetB.mk hown1 (((Below.refl _ _).alloc (Nat.le_refl _) _).trans hb1)
theorem PgX.setC {x x' : Nat} {w : World} {F : Nat->Prop} {gp : Nat} {st : PgS} (h : PgX x w F gp st) (i : Nat) (v : Value) (st' : PgS) (hset : ∀ gm U,(pgC gm st U).setIfInBounds i v=pgC gm st' U) (h1 : 1<=st'.many) (h2 : st'.many<=65536)
   (hp' : ∀ no,st'.has no->no ≠ x'->st.has no/\no ≠ x/\st'.page no=st.page no) : PgX x' (w.setCell ⟨gp,i,none⟩ v) F gp st':=by
 obtain ⟨gm,U,m,hb,hg,hm,hp⟩:=h.mem
 have hne:=hm.ne hb
 refine ⟨h1,h2,fun j hj => by have:=h.lt j hj; simpa [World.setCell] using this,h.own,gm,U,m,?_,hg,hm.keep (Below.heap_setCell w _ _ _ hne),fun j hj hx => ?_⟩
 · have := hb.set_ i v
   rw [hset] at this
   exact this
 · obtain ⟨e1, e2, e3⟩ := hp' j hj hx
   obtain ⟨g,c,h1,h2,h3⟩:=hp j e1 e2
   refine ⟨g,c,h1,h2,?_⟩
   rw [e3]
   exact h3.same (Below.heap_setCell w _ _ _ (fun e => own_blk_ne h3 hb (by decide) (by rw [e]; rfl)))
theorem PgX.alloc {x : Nat} {w : World} {F : Nat->Prop} {gp : Nat} {st : PgS} (h : PgX x w F gp st) (o : Obj) : PgX x (w.alloc o) F gp st:=h.keep (fun k hk => Below.heap_alloc w o k (h.lt k hk)) (by simp)
theorem rb_made (w : World) (n : Nat) : RB (w.alloc (.cells (bv (zeroB n)).toArray 5)) (w.heap.size + 1) (some ⟨w.heap.size,0,none⟩) n (zeroB n):=by
 refine ⟨by rw [bv_length,zeroB_len,Nat.mul_one],fun _ => ⟨_,rfl,Nat.lt_succ_self _,fun j u hj => ?_⟩⟩
 have hb:=Blk.new w 5 (bv (zeroB n)).toArray
 have e : (Addr.mk w.heap.size 0 none).add j=⟨w.heap.size,j,none⟩:=by
   unfold Addr.add
   by_cases h0 : j=0
   · subst h0; rfl
   · rw [if_neg h0]; simp
 rw [e,hb.cell]
 simpa using hj
theorem RN.one_new (w : World) (x : Nat) (t : TypeId) : RN (w.alloc (.cells #[.int .i64 (x : Int)] t)) (w.alloc (.cells #[.int .i64 (x : Int)] t)).heap.size (some ⟨w.heap.size,0,none⟩) 1 [x]:=by
 refine ⟨by simp,fun _ => ⟨_,rfl,by simp,fun j u hj => ?_⟩⟩
 match j,hj with
 | 0,hj => simp [encI] at hj; subst hj; simp [Addr.add]
def AllocEnd (F : Nat->Prop) (w : World) (gp : Nat) (st : PgS) : Ending->World->Prop:=PgEnd F w gp (allocS st) (.tuple #[.int .i64 (allocN st : Int),.int .i64 0])
theorem alloc_new (w : World) (F : Nat->Prop) (gp : Nat) (st : PgS) (h : PgAt w F gp st) (h0 : st.free=0) (hm : st.many < 65536) :
   Calls Tryz.prog 68 #[.pointer (some ⟨gp,0,none⟩)] w (AllocEnd F w gp st):=by
 obtain ⟨M,hM⟩ : ∃ M,M=st.many + 1:=⟨_,rfl⟩
 obtain ⟨Z,hZ⟩ : ∃ Z : Array Value,Z=(bv (zeroB 508)).toArray:=⟨_,rfl⟩
 have hmk : ∀ wz : World,(Instr.makeSlice 37 (.int .i64 508) (.int .i64 508)).run Tryz.prog wz=.ok (.slice (some ⟨wz.heap.size,0,none⟩) 508 508) (wz.alloc (.cells Z 5)):=fun wz => by rw [hZ]; exact run_make508 wz 508 (by omega)
 have hX : PgX st.many (w.setCell ⟨gp,2,none⟩ (.int .i64 (M : Int))) F gp { st with many:=M } :=
   h.setC 2 _ { st with many:=M } (fun _ _ => rfl) (by show 1<=M; omega) (by show M<=65536; omega) (fun no hn hx => ⟨⟨hn.1,by have h2 : no < M:=hn.2; omega⟩,by have:=hn.1; omega,rfl⟩)
 have hch:=change_any st.many ((w.setCell ⟨gp,2,none⟩ (.int .i64 (M : Int))).alloc (.cells Z 5)) F gp { st with many:=M } (hX.alloc _) st.many (.inr rfl) ⟨h.one,by show st.many < M; omega⟩ (some ⟨w.heap.size,0,none⟩) 508 (zeroB 508) (by
   have h1:=rb_made (w.setCell ⟨gp,2,none⟩ (.int .i64 (M : Int))) 508
   rw [hZ]
   simpa [World.setCell] using h1)
 replace hch:=hide hch
 have hE : Ev F w F ((w.setCell ⟨gp,2,none⟩ (.int .i64 (M : Int))).alloc (.cells Z 5)):=((Ev.refl F w).set_ (p:=⟨gp,2,none⟩) h.own _).alloc_ _
 have hu:=hide (up_any 0 w F gp st h)
 have hsz : (w.setCell ⟨gp,2,none⟩ (.int .i64 (M : Int))).heap.size=w.heap.size:=by simp [World.setCell]
 have hst : allocS st=({ st with many:=M } : PgS).upd st.many (zeroB 508):=by unfold allocS; rw [if_pos h0,hM]; rfl
 have hno : allocN st=st.many:=by unfold allocN; rw [if_pos h0]
 obtain ⟨gm,U,m,hb,hgm,hmm,hp⟩:=h.mem
 have c2 : w.cell? ⟨gp,2,none⟩=some (.int .i64 (st.many : Int)):=hb.cell 2
 have c3 : w.cell? ⟨gp,3,none⟩=some (.int .i64 0):=by rw [hb.cell 3]; show some (Value.int .i64 (st.free : Int))=_; rw [h0]; rfl
 have f2:=hb.frozen 2
 have hI : (st.many : Int) + 1=(M : Int):=by omega
 have hne : ((st.many : Int) == 65536)=false:=by rw [beq_eq_false_iff_ne]; omega
 unfold AllocEnd
 rw [hno,hst]
 replace hM:=hide hM
 replace hZ:=hide hZ
 replace hE:=hide hE
 replace hst:=hide hst
 replace hno:=hide hno
 replace h0:=hide h0
 replace h:=hide h
 replace hX:=hide hX
 clear hb hmm hp
 go_enter Tryz.func68,Tryz.ntmps68
 go_wp2_with fail
 refine hu.out.mono ?_
 rintro e w1 ⟨rfl,rfl⟩
 go_wp2_with fail
 refine hch.out.mono ?_
 rintro e w2 ⟨rfl,F',hP',hE'⟩
 replace hP':=hide hP'
 replace hE':=hide hE'
 go_wp2_with fail
 go_ret2
 exact ⟨rfl,F',hP'.out,hE.out.trans hE'.out⟩
theorem alloc_old (w : World) (F : Nat->Prop) (gp : Nat) (st : PgS) (h : PgAt w F gp st) (h0 : st.free ≠ 0) (hm : st.free < st.many) :
   Calls Tryz.prog 68 #[.pointer (some ⟨gp,0,none⟩)] w (AllocEnd F w gp st):=by
 obtain ⟨f,hf⟩ : ∃ f,f=st.free:=⟨_,rfl⟩
 obtain ⟨M,hM⟩ : ∃ M,M=numL ((st.page st.free).take 4):=⟨_,rfl⟩
 obtain ⟨Z,hZ⟩ : ∃ Z : Array Value,Z=(bv (zeroB 508)).toArray:=⟨_,rfl⟩
 have hmk : ∀ wz : World,(Instr.makeSlice 37 (.int .i64 508) (.int .i64 508)).run Tryz.prog wz=.ok (.slice (some ⟨wz.heap.size,0,none⟩) 508 508) (wz.alloc (.cells Z 5)):=fun wz => by rw [hZ]; exact run_make508 wz 508 (by omega)
 have hpg:=hide (page_any w F gp st h f ⟨by omega,by omega⟩)
 have hu:=hide (up_any 0 w F gp st h)
 have hst : allocS st=({ st with free:=M } : PgS).upd f (zeroB 508):=by unfold allocS; rw [if_neg h0,hM,hf]; rfl
 have hno : allocN st=f:=by unfold allocN; rw [if_neg h0,hf]
 have hmost:=h.most
 have hone:=h.one
 obtain ⟨gm,U,m,hb,hgm,hmm,hp⟩:=h.mem
 have c3 : w.cell? ⟨gp,3,none⟩=some (.int .i64 (f : Int)):=by rw [hb.cell 3,hf]; rfl
 have hne : ((f : Int) == 0)=false:=by rw [beq_eq_false_iff_ne]; omega
 have hfp : 1<=f/\f < st.many:=by omega
 unfold AllocEnd
 rw [hno,hst]
 replace hf:=hide hf
 replace hM:=hide hM
 replace hZ:=hide hZ
 replace hst:=hide hst
 replace hno:=hide hno
 replace h0:=hide h0
 replace h:=hide h
 replace hm:=hide hm
 replace hfp:=hide hfp
 clear hb hmm hp
 go_enter Tryz.func68,Tryz.ntmps68
 go_wp2_with fail
 refine hu.out.mono ?_
 rintro e w1 ⟨rfl,rfl⟩
 go_wp2_with fail
 refine hpg.out.mono ?_
 rintro e w2 ⟨F2,g,c,rfl,hP2,hE2,hg2,hO2⟩
 have hrb:=hO2.rb
 have hwg:=wget_any w2 (some ⟨g,0,none⟩) 508 c 0 4 (st.page f) hrb.1 hrb.2.1 (by omega) (by omega) (by omega) (by omega)
 rw [List.drop_zero,hf.out,<- hM.out] at hwg
 replace hwg:=hide hwg
 replace hP2:=hide hP2
 replace hE2:=hide hE2
 replace hO2:=hide hO2
 clear hrb hpg
 go_wp2_with fail
 refine hwg.out.mono ?_
 rintro e w3 ⟨rfl,hb3⟩
 have hP3:=hP2.out.below hb3
 have hE3:=hE2.out.below hb3
 have hX : PgAt (w3.setCell ⟨gp,3,none⟩ (.int .i64 (M : Int))) F2 gp { st with free:=M } :=
   PgX.setC hP3 3 _ { st with free:=M } (fun _ _ => rfl) hone hmost (fun no hn hx => ⟨hn,by have:=hn.1; omega,rfl⟩)
 have hE4 : Ev F w F2 ((w3.setCell ⟨gp,3,none⟩ (.int .i64 (M : Int))).alloc (.cells Z 5)):=(hE3.set_ (p:=⟨gp,3,none⟩) hP3.own _).alloc_ _
 have hch:=change_any 0 ((w3.setCell ⟨gp,3,none⟩ (.int .i64 (M : Int))).alloc (.cells Z 5)) F2 gp { st with free:=M } (hX.alloc _) f (.inl rfl) hfp.out (some ⟨w3.heap.size,0,none⟩) 508 (zeroB 508) (by
   have h1:=rb_made (w3.setCell ⟨gp,3,none⟩ (.int .i64 (M : Int))) 508
   rw [hZ.out]
   simpa [World.setCell] using h1)
 obtain ⟨gm3,U3,m3,hb3',_⟩:=hP3.mem
 have f3:=hb3'.frozen 3
 have d3 : w3.cell? ⟨gp,3,none⟩=some (.int .i64 (st.free : Int)):=hb3'.cell 3
 replace hch:=hide hch
 replace hX:=hide hX
 replace hE4:=hide hE4
 replace hP3:=hide hP3
 replace hE3:=hide hE3
 replace hb3:=hide hb3
 clear hb3' hwg
 go_wp2_with fail
 refine hch.out.mono ?_
 rintro e w5 ⟨rfl,F',hP',hE'⟩
 replace hP':=hide hP'
 replace hE':=hide hE'
 go_wp2_with fail
 go_ret2
 exact ⟨rfl,F',hP'.out,hE4.out.trans hE'.out⟩
theorem alloc_any (w : World) (F : Nat->Prop) (gp : Nat) (st : PgS) (h : PgAt w F gp st) (hc : CanAlloc st) (hf : st.free < st.many) :
   Calls Tryz.prog 68 #[.pointer (some ⟨gp,0,none⟩)] w (AllocEnd F w gp st):=by
 by_cases h0 : st.free=0
 · exact alloc_new w F gp st h h0 (hc.elim (fun h => h.2) (fun h => absurd h0 h.1))
 · exact alloc_old w F gp st h h0 hf
def ReadEnd (F : Nat->Prop) (w : World) (gp : Nat) (st : PgS) (no : Nat) (e : Ending) (w' : World) : Prop :=
 ∃ F' A c,e=.returned (.tuple #[.slice A 508 c,.int .i64 0])/\508<=c/\PgAt w' F' gp st/\Ev F w F' w'/\MB F' w' A 508 (st.page no)
theorem read_any (w : World) (F : Nat->Prop) (gp : Nat) (st : PgS) (h : PgAt w F gp st) (no : Nat) (hn : st.has no) :
   Calls Tryz.prog 81 #[.pointer (some ⟨gp,0,none⟩),.int .i64 (no : Int)] w (ReadEnd F w gp st no):=by
 have hh:=hide (has_any 0 w F gp st h no 0 (by omega) (by have:=hn.2; omega))
 have hpg:=hide (page_any w F gp st h no hn)
 have hne : ((no : Int) == 0)=false:=by rw [beq_eq_false_iff_ne]; have:=hn.1; omega
 replace h:=hide h
 replace hn:=hide hn
 go_enter Tryz.func81,Tryz.ntmps81
 go_wp2_with fail
 refine hh.out.mono ?_
 rintro e w1 ⟨rfl,rfl⟩
 go_wp2_with fail
 refine hpg.out.mono ?_
 rintro e w2 ⟨F2,g,c,rfl,hP2,hE2,hg2,hO2⟩
 have hcl:=hide (sclone_any (some ⟨g,0,none⟩) 508 c (st.page no) w2 hO2.rb.1 (by omega))
 have hlen : Hid ((st.page no).length=508):=hO2.len
 replace hP2:=hide hP2
 replace hE2:=hide hE2
 replace hO2:=hide hO2
 go_wp2_with fail
 refine hcl.out.mono ?_
 rintro e w3 ⟨v,rfl,hO3,hB3⟩
 rw [hlen.out] at hO3
 obtain ⟨A3,c3,rfl,_,_,hc3,_⟩:=hO3.form
 have hlt:=hP2.out.lt
 have hfin : Hid (ReadEnd F w gp st no (.returned (.tuple #[.slice A3 508 c3,.int .i64 0])) w3) :=
   ⟨F2,A3,c3,rfl,hc3,hP2.out.below hB3,hE2.out.below hB3,MB.made hO3 (fun k hk => hlt k hk)⟩
 replace hO3:=hide hO3
 replace hB3:=hide hB3
 go_wp2_with fail
 go_ret2
 exact hfin.out
theorem write_any (w : World) (F : Nat->Prop) (gp : Nat) (st : PgS) (h : PgAt w F gp st) (no : Nat) (hn : st.has no) (A : Option Addr) (n c : Nat) (b : List UInt8) (hb : RB w w.heap.size A n b) (hn5 : n<=508) :
   Calls Tryz.prog 69 #[.pointer (some ⟨gp,0,none⟩),.int .i64 (no : Int),.slice A n c] w (PgEnd F w gp (writeS st no b) (.int .i64 0)):=by
 have hh:=hide (has_any 0 w F gp st h no 1 (by have:=hn.1; omega) (by have:=hn.2; omega))
 have hcl:=hide (sclone_any A n c b w hb (by omega))
 have hlen : Hid (b.length=n):=hb.len
 obtain ⟨D,hD⟩ : ∃ D,D=508 - n:=⟨_,rfl⟩
 have hDI : (508 : Int) - (n : Int)=(D : Int):=by omega
 have hnI : (n : Int)<=508:=by omega
 have hlt:=h.lt
 replace h:=hide h
 replace hn:=hide hn
 replace hb:=hide hb
 replace hD:=hide hD
 replace hlt:=hide hlt
 go_enter Tryz.func69,Tryz.ntmps69
 go_wp2_with fail
 refine hh.out.mono ?_
 rintro e w1 ⟨rfl,rfl⟩
 go_wp2_with fail
 refine hcl.out.mono ?_
 rintro e w2 ⟨v,rfl,hO2,hB2⟩
 rw [hlen.out] at hO2
 obtain ⟨v3,w3,hrun,hO3,hg3,hv3⟩:=run_app_zero w2 w.heap.size v n b hO2 D 37 (by have:=hD.out; omega) hB2.size
 have hB3 : Below w.heap.size w w3:=hB2.grown hg3 hB2.size (fun k hk => hO2.block_lt k hk)
 rw [show n + D=508 from by have:=hD.out; omega] at hO3
 obtain ⟨A3,c3,rfl,hr3,_⟩:=hO3.form
 have hch:=hide (change_any 0 w3 F gp st (h.out.below hB3) no (.inl rfl) hn.out A3 c3 _ hr3)
 have hst : Hid (writeS st no b=st.upd no (b ++ zeroB D)):=by unfold writeS; rw [hlen.out,<- hD.out]; rfl
 replace hO2:=hide hO2
 replace hB2:=hide hB2
 replace hO3:=hide hO3
 replace hg3:=hide hg3
 replace hv3:=hide hv3
 replace hB3:=hide hB3
 replace hr3:=hide hr3
 go_wp2_with (at_builtin; refine Lib.wpList_append_run _ rfl (.tmp 20) (.tmp 23) 37 3 rfl _ _ rfl rfl _ _ hrun ?_)
 refine hch.out.mono ?_
 rintro e w5 ⟨rfl,F',hP',hE'⟩
 replace hP':=hide hP'
 replace hE':=hide hE'
 go_wp2_with fail
 go_ret
 exact ⟨rfl,F',by rw [hst.out]; exact hP'.out,(Ev.of_below hB3.out).trans hE'.out⟩
theorem free_any (w : World) (F : Nat->Prop) (gp : Nat) (st : PgS) (h : PgAt w F gp st) (no : Nat) (hn : st.has no) (hf : st.free < st.many) :
   Calls Tryz.prog 80 #[.pointer (some ⟨gp,0,none⟩),.int .i64 (no : Int)] w (PgEnd F w gp (freeS st no) (.int .i64 0)):=by
 have hh:=hide (has_any 0 w F gp st h no 1 (by have:=hn.1; omega) (by have:=hn.2; omega))
 have hmost:=h.most
 have hone:=h.one
 obtain ⟨gm,U,m,hb,hgm,hmm,hp⟩:=h.mem
 have c3 : w.cell? ⟨gp,3,none⟩=some (.int .i64 (st.free : Int)):=hb.cell 3
 have hput:=wput_any (w.alloc (.cells #[.int .i64 (st.free : Int)] 3)) none (some ⟨w.heap.size,0,none⟩) 0 0 1 1 4 [] [st.free] (RB.nil _ _) (RN.one_new w st.free 3) (by omega) (by omega) (by omega) (by omega) (by simp; omega)
 replace hput:=hide hput
 have hlt:=h.lt
 replace h:=hide h
 replace hn:=hide hn
 replace hlt:=hide hlt
 clear hb hmm hp
 go_enter Tryz.func80,Tryz.ntmps80
 go_wp2_with fail
 refine hh.out.mono ?_
 rintro e w1 ⟨rfl,rfl⟩
 go_wp2_with fail
 refine hput.out.mono ?_
 rintro e w2 ⟨v,rfl,hO2,hB2⟩
 have e4 : ([] ++ leBs 4 [st.free]).length=4:=by simp [leBs,leB_len]
 rw [e4] at hO2
 obtain ⟨v3,w3,hrun,hO3,hg3,hv3⟩:=run_app_zero w2 _ v 4 _ hO2 504 37 (by omega) hB2.size
 have hB3 : Below w.heap.size w w3:=(((Below.refl w.heap.size w).alloc (Nat.le_refl _) (.cells #[.int .i64 (st.free : Int)] 3)).trans (hB2.mono (by simp))).grown hg3 (by have:=hB2.size; simp at this; omega) (fun k hk => by have:=hO2.block_lt k hk; simp at this; omega)
 obtain ⟨A3,c3',rfl,hr3,_⟩:=hO3.form
 have hl3 : Hid ([] ++ leBs 4 [st.free] ++ zeroB 504=leB 4 st.free ++ zeroB 504):=by simp [leBs,hide]
 rw [hl3.out] at hr3
 have hch:=hide (change_any 0 w3 F gp st (h.out.below hB3) no (.inl rfl) hn.out A3 c3' _ hr3)
 replace hO2:=hide hO2
 replace hB2:=hide hB2
 replace hO3:=hide hO3
 replace hg3:=hide hg3
 replace hv3:=hide hv3
 replace hB3:=hide hB3
 replace hr3:=hide hr3
 replace e4:=hide e4
 go_wp2_with (at_builtin; refine Lib.wpList_append_run _ rfl (.tmp 20) (.const (.int .i64 504)) 37 3 rfl _ _ rfl rfl _ _ hrun ?_)
 refine hch.out.mono ?_
 rintro e w5 ⟨rfl,F',hP',hE'⟩
 have hX : PgAt (w5.setCell ⟨gp,3,none⟩ (.int .i64 (no : Int))) F' gp (freeS st no) :=
   PgX.setC hP' 3 _ (freeS st no) (fun _ _ => rfl) hone hmost (fun j hj hx => ⟨hj,by have:=hj.1; omega,rfl⟩)
 have hE5:=hE'.set_ (p:=⟨gp,3,none⟩) hP'.own (.int .i64 (no : Int))
 obtain ⟨gm3,U3,m3,hb3',_⟩:=hP'.mem
 have f3:=hb3'.frozen 3
 have d3 : w5.cell? ⟨gp,3,none⟩=some (.int .i64 (st.free : Int)):=hb3'.cell 3
 replace hP':=hide hP'
 replace hE':=hide hE'
 replace hX:=hide hX
 replace hE5:=hide hE5
 clear hb3'
 go_wp2_with fail
 go_ret
 exact ⟨rfl,F',hX.out,(Ev.of_below hB3.out).trans hE5.out⟩
end Go.Proofs.YtiiljlmeililbaaGreatDoor
