/-
  Contract of the pager's writes where nothing is changed but page 0.
-/
import Derived.Test.YtajdeapdgbnahaaGreatDoorCyOpD
import Derived.Test.YtajdeapdgbnahaaGreatDoorCySeal
namespace Go.Proofs.YtajdeapdgbnahaaGreatDoor
set_option linter.unusedVariables false
set_option maxRecDepth 100000
set_option maxHeartbeats 2000000
open Go.RowKit Go.Maps
theorem dW.Mf{w:World}{b N:Nat}{m:Nat->Option Value}(h:dW w b N m)(k:Nat)(c:k<N)(i:N<=9000000000000000000):(Instr.lookup 109 (.map (some b)) (.int .i64 (k:Int)) false).run Tryz.prog w=.ok ((m k).getD GN) w:=by
 obtain⟨j,D,e,d⟩:=h;obtain⟨v,ps,f,a⟩:=e.lookup (int_keyed Tryz.underlying3) Tryz.underlying109 (CJ w) (zd:=.held GN) (zp:=[]) rfl (JG k (by omega));rw[f];cases hm:m k with
 |none=>
  rw[atKey_of_not_has (d.none_ k c hm)]at a
  simp only[pz,Option.some.injEq,Prod.mk.injEq,DataW.held.injEq]at a
  rw[a.1];rfl
 |some x=>
  obtain⟨l,g⟩:=d.some_ k x c hm
  rw[g]at a
  simp only[pz,Option.some.injEq,Prod.mk.injEq,DataW.held.injEq]at a
  rw[a.1];rfl
theorem Lt:(Tryz.prog.info? 224).map (λi=>(i.zero,i.size,i.bytes))=some (some (.agg #[.int .i64 0,.slice none 0 0]),2,32):=by kernel_rfl
def KA(w:World)(d:Nat)(p0:List UInt8)(e:Ending)(w':World):Prop:=∃a b c,e=.returned (.slice (some ⟨a,0,none⟩) 1 c)/\w'.cell? ⟨a,0,none⟩=some (.int .i64 0)/\w'.cell? ⟨a,1,none⟩=some (.slice (some ⟨b,0,none⟩) 512 512)/\ah w' b 306 (bv p0).toArray/\dW w' d 65536 (λ_=>none)/\R (λj=>j=d) w w'/\w.heap.size<=b/\w.heap.size<=a/\∃f,ah w' a 224 f
theorem Cd(w:World)(n ce l gc rd:Nat)(cf:List UInt8)(a b:aB)(row:Value)(d:ah w n 115 (qB ce cf a b l gc row rd))(ap:dW w l 65536 (λ_=>none))(cg:a.many<=65536)(ch:a.free<=65536)(ci:∀k,a.roots k<=65536):
 Calls Tryz.prog 140 #[.pointer (some ⟨n,0,none⟩)] w (KA w l (qW 0 (jy a++bt (508-(jy a).length)))):=by
 have a0:=J (BM w a cg ch ci);unfold uT at a0;have cL:w.cell? ⟨n,2,none⟩=some (.int .i64 (a.many:Int)):=d.cell 2;have cM:w.cell? ⟨n,3,none⟩=some (.int .i64 (a.free:Int)):=d.cell 3;have cP:w.cell? ⟨n,4,none⟩=some (.int .i64 (a.roots 0:Int)):=d.cell 4;have c5:w.cell? ⟨n,5,none⟩=some (.int .i64 (a.roots 1:Int)):=d.cell 5;have cS:w.cell? ⟨n,6,none⟩=some (.int .i64 (a.roots 2:Int)):=d.cell 6;have cV:w.cell? ⟨n,7,none⟩=some (.int .i64 (a.roots 3:Int)):=d.cell 7;have cX:w.cell? ⟨n,8,none⟩=some (.int .i64 (a.roots 4:Int)):=d.cell 8;have cY:w.cell? ⟨n,9,none⟩=some (.int .i64 (a.roots 5:Int)):=d.cell 9;have cy:w.cell? ⟨n,10,none⟩=some (.int .i64 (a.roots 6:Int)):=d.cell 10;have cz:w.cell? ⟨n,11,none⟩=some (.int .i64 (a.roots 7:Int)):=d.cell 11;have bs:=d.lt;have bx:=ap.lt;have bA:=ap.ne d;replace d:=J d;replace ap:=J ap;go_enter Tryz.func140,Tryz.ntmps140;go_wp2_with fail;refine a0.o.mono ?_;rintro e bB ⟨v1,rfl,L,C⟩;rw[uU]at L;obtain⟨cj,ck,rfl,Y,_⟩:=L.form;have z:=d.o.below C bs;have a7:=J (BN bB n l _ (z.cell 22) (ap.o.keep (C.block l bx)) 0 (by omega) cj 44 ck (jy a) (by omega) (by omega) Y);refine bz ?_ L C Y z;clear L C Y z;intro L C Y z;go_wp2_with fail;refine a7.o.mono ?_;rintro e S ⟨T,E,rfl,Z,M,N,cA⟩;have A:=N.blk z.o (λe=>bA e.symm);have cB:S.cell? ⟨n,22,none⟩=some (.map (some l)):=A.cell 22;have a8:=J (Iz (some l) S);obtain⟨cl,D,ab,ac⟩:=Z;have U:=ab.entries (int_keyed Tryz.underlying3);have b0:=uI ac U;have a9:=J (Ce l _ D pz S ab (by unfold maxLen;omega) (by omega));have ad:=IA ac (by omega) U;have Z:Hid (dW S l 65536 (mq (λ_=>none) 0 (some (.slice (some ⟨T,0,none⟩) 44 E)))):=J ⟨cl,D,ab,ac⟩;refine bz ?_ M N A ad;clear M N A ad;intro M N A ad;clear ab ac U b0;go_wp2_with fail;refine a8.o.mono ?_;rintro e c0 ⟨rfl,rfl⟩;go_wp2_with fail;refine a9.o.mono ?_;rintro e r ⟨v4,cm,rfl,ba,s,ae⟩;have b1:cm=[0]:=by have h:=ba;rw[ad.o]at h;exact List.perm_singleton.1 h
 subst b1;have bb:([0]:List Int).mergeSort (λx y=>decide (x<=y))=[0]:=List.mergeSort_singleton _;rw[bb]at s;obtain⟨gk,c1,rfl,cD,cn⟩:=s.form (by simp);have c2:r.cell? ⟨gk,0,none⟩=some (.int .i64 0):=by have h:=s.cells (g:=gk) rfl 0 (encZ 0) rfl;simpa[Addr.add]using h
 have q:R (λ_=>False) S r:=R.ag (((Below.refl S.heap.size S).alloc (aa _) (.cells #[.map (some l)] 109)).trans (ae.mono (by simp)));have af:=J (Z.o.keep (q.block l Z.o.lt (λh=>h)):dW r l 65536 (mq (λ_=>none) 0 (some (.slice (some ⟨T,0,none⟩) 44 E))));have V:=J (q.blk A.o (λh=>h));have cE:r.cell? ⟨n,22,none⟩=some (.map (some l)):=V.o.cell 22;have cH:(Instr.lookup 109 (.map (some l)) (.int .i64 0) false).run Tryz.prog r=.ok (.slice (some ⟨T,0,none⟩) 44 E) r:=af.o.Mf 0 (by omega) (by omega);have b2:Hid (OB r bB.heap.size (.slice (some ⟨T,0,none⟩) 44 E) 44 (jy a)):=J (M.o.same (q.block T (by
  rcases M.o.2 with⟨bj,_⟩|⟨co,bl,bc,bm,_,bp,_⟩
  ·cases bj
  ·cases bm;exact ah.lt bp) (λh=>h)))
 have a1:=J (((R.ag C.o).trans N.o (λi _ h=>h)).trans q (λi _ h=>h.elim):R (λj=>j=l) w r);refine bf ?_ s ae q;clear s ae q;intro s ae q;clear ba bb a9 a8 a7 a0;have b3:=J (IB r 0 (by omega) (some ⟨T,0,none⟩) 44 E (jy a) b2.o.rb.1 (by omega));go_wp2_with fail;go_loopw [3,5,6,7,22] (λv3 _ _ _ v22 ao=>(v22=.int .i64 0/\v3=.slice none 0 0/\ao=r)\/(v22=.int .i64 1/\∃f m c,v3=.slice (some ⟨f,0,none⟩) 1 c/\Hid (ao.cell? ⟨f,0,none⟩=some (.int .i64 0)/\ao.cell? ⟨f,1,none⟩=some (.slice (some ⟨m,0,none⟩) 512 512)/\ah ao m 306 (bv (qW 0 (jy a++bt (508-(jy a).length)))).toArray/\Below r.heap.size r ao/\r.heap.size<=m/\r.heap.size<=f/\∃a2,ah ao f 224 a2))) (λ_ _ _ _ v22 _=>1-(intOf v22).toNat)
 case atStart=>exact .inl ⟨rfl,rfl,rfl⟩
 case round=>
  rcases hrel with⟨rfl,rfl,rfl⟩|⟨rfl,f,m,c,rfl,cp⟩
  ·go_wp2_with fail;refine b3.o.mono ?_;rintro e G ⟨m,rfl,p,F,bd⟩;obtain⟨i0,b4,b5,b6,b7⟩:=info_parts Lt;have al:=uR G #[.int .i64 0,.slice (some ⟨m,0,none⟩) 512 512] 224 (by simp);obtain⟨c3,H,br,B,am,b8⟩:=bN (P:=Tryz.prog) (G.alloc (.cells #[.int .i64 0,.slice (some ⟨m,0,none⟩) 512 512] 224)) (G.heap.size+1) 172 172 224 i0 _ 2 32 Tryz.underlying172 b4 b5 b6 b7 rfl (by omega) (.slice none 0 0) 0 [] ⟨by simp,.inl ⟨rfl,rfl⟩⟩ (G.heap.size+1) (some ⟨G.heap.size,0,none⟩) 1 1 _ al (by
    intro u cr;have b9:u=.int .i64 0\/u=.slice (some ⟨m,0,none⟩) 512 512:=by simpa using cr
    rcases b9 with rfl|rfl<;>rfl) (by simp[maxLen]) (by omega) (by simp)
   obtain⟨f,cs,rfl,ct,cv⟩:=B.form (by omega);have W:H.cell? ⟨f,0,none⟩=some (.int .i64 0):=by have h:=B.cells (g:=f) rfl 0 (.int .i64 0) rfl;simpa[Addr.add]using h
   have a3:H.cell? ⟨f,1,none⟩=some (.slice (some ⟨m,0,none⟩) 512 512):=by have h:=B.cells (g:=f) rfl 1 (.slice (some ⟨m,0,none⟩) 512 512) rfl;simpa[Addr.add]using h
   have O:Below G.heap.size G H:=((Below.refl G.heap.size G).alloc (aa _) (.cells #[.int .i64 0,.slice (some ⟨m,0,none⟩) 512 512] 224)).grown am (by simp) (λk a4=>by simp[Value.ownBlock]at a4);have a5:∃a2,ah H f 224 a2:=by
    rcases B.2 with⟨bj,_⟩|⟨co,bl,bc,bm,_,bp,_⟩
    ·cases bj
    ·cases bm;exact⟨bc,bp⟩
   have X:Hid (H.cell? ⟨f,0,none⟩=some (.int .i64 0)/\H.cell? ⟨f,1,none⟩=some (.slice (some ⟨m,0,none⟩) 512 512)/\ah H m 306 (bv (qW 0 (jy a++bt (508-(jy a).length)))).toArray/\Below wr.heap.size wr H/\wr.heap.size<=m/\wr.heap.size<=f/\∃a2,ah H f 224 a2):=J ⟨W,a3,p.below O p.lt,F.trans (O.mono F.size),bd,by have:=F.size;omega,a5⟩;refine dZ ?_ p F B am O al;clear p F B am O al;intro p F B am O al;clear W a3 b8;go_wp2_with(at_builtin;refine Lib.wpList_append_run _ rfl (.tmp 37) (.tmp 41) 172 172 rfl _ _ rfl rfl _ _ br ?_);go_roundw
   case rel=>exact .inr ⟨rfl,f,m,cs,rfl,X⟩
   case measure=>simp[intOf]
  ·obtain⟨W,a3,p,t,bd,cw,ca,cb⟩:=cp.o;have an:=af.o.keep (t.block l af.o.lt);obtain⟨cc,be,Q,v⟩:=an.drop 0 (by omega) 0;have be:(Builtin.delete_ #[109,3] 0 #[.map (some l),.int .i64 0]).run Tryz.prog wr=.ok (.tuple #[]) cc:=be;have bi:mq (mq (λ_=>none) 0 (some (.slice (some ⟨T,0,none⟩) 44 E))) 0 none=(λ_=>none:Nat->Option Value):=by funext j;unfold mq;split<;>rfl
   rw[bi]at Q;have cK:wr.cell? ⟨n,22,none⟩=some (.map (some l)):=(V.o.below t V.o.lt).cell 22;have cx:=af.o.lt;have K:f≠l:=by omega
   have a6:m≠l:=by omega
   have X:Hid (KA w l (qW 0 (jy a++bt (508-(jy a).length))) (.returned (.slice (some ⟨f,0,none⟩) 1 c)) cc):=by
    refine J ⟨f,m,c,rfl,?_,?_,p.grown v (λe=>a6 (by injection e with e)),Q,(a1.o.trans (R.ag t) (λi _ h=>h)).grown v (λk a4 _=>by injection a4 with a4;exact a4.symm),by have:=a1.o.size;omega,by have:=a1.o.size;omega,ca,cb.grown v (λe=>K (by injection e with e))⟩
    ·rw[World.cell?_of_block (w:=wr) (v.block f (World.block_lt_of_cell? wr _ W) (λe=>K (by injection e with e)))];exact W
    ·rw[World.cell?_of_block (w:=wr) (v.block f (World.block_lt_of_cell? wr _ W) (λe=>K (by injection e with e)))];exact a3
   refine bX ?_ p t an Q v;clear p t an Q v;intro p t an Q v;clear W a3 bi;go_wp2_with fail;go_ret;exact X.o
theorem Cf(w:World)(j k c:Nat)(n:w.cell? ⟨j,0,none⟩=some (.int .i64 0))(p:w.cell? ⟨j,1,none⟩=some (.slice (some ⟨k,0,none⟩) 512 512)):Calls Tryz.prog 136 #[.slice (some ⟨j,0,none⟩) 1 c] w λe w'=>e=.returned (.bool true)/\Below w.heap.size w w':=by
 go_enter Tryz.func136,Tryz.ntmps136;go_wp2_with fail;go_loopw [3,5,8] (λv3 _ f l=>(f=.int .i64 0/\v3=.int .i64 (-1)/\l=w)\/(f=.int .i64 1/\Hid (Below w.heap.size w l))) (λ_ _ f _=>1-(intOf f).toNat)
 case atStart=>exact .inl ⟨rfl,rfl,rfl⟩
 case round=>
  rcases hrel with⟨rfl,rfl,rfl⟩|⟨rfl,m⟩
  ·obtain⟨a,b⟩:=I (wr.alloc (.cells #[.int .i64 0,.slice (some ⟨k,0,none⟩) 512 512] 224) );have d:a.heap.size=wr.heap.size+1:=by rw[b,World.size_alloc]
   have g:Hid (Calls Tryz.prog 188 #[.int .i64 3,.slice (some ⟨wr.heap.size+1,0,none⟩) 1 1] (a.alloc (.cells #[.int .i64 0] 3)) λe w'=>e=.returned (.bool true)/\a.alloc (.cells #[.int .i64 0] 3)=w'):=by have h:=xR (a.alloc (.cells #[.int .i64 ((0:Nat):Int)] 3)) (some ⟨a.heap.size,0,none⟩) 1 1 3 [0] (oG a 0 3) (by omega) (by omega) (by omega) (by simp);rw[d]at h;exact J h
   have i:Hid (Below wr.heap.size wr (a.alloc (.cells #[.int .i64 0] 3))):=by rw[b];exact J (((Below.refl wr.heap.size wr).alloc (aa _) _).alloc (by simp) _)
   rw[b]at g i;replace d:=J d;clear b;go_wp2_with fail;refine g.o.mono ?_;rintro e q ⟨rfl,rfl⟩;go_wp2_with fail;go_roundw
   case rel=>exact .inr ⟨rfl,i⟩
   case measure=>simp[intOf]
  ·go_wp2_with fail;go_ret;exact⟨rfl,m.o⟩
end Go.Proofs.YtajdeapdgbnahaaGreatDoor
