/-
  Contracts of commit's six steps.
-/
import Derived.Test.YtajdeapdgbnahaaGreatDoorCyGr33
import Derived.Lib.SlBytesConst
namespace Go.Proofs.YtajdeapdgbnahaaGreatDoor
set_option linter.unusedVariables false
set_option maxRecDepth 100000
set_option maxHeartbeats 2000000
open Go.RowKit Go.Maps
theorem Hm(w:World)(f a g:Nat)(i:List UInt8)(j n c:Nat)(A:Option Addr)(s:w.cell? ⟨f,0,none⟩=some (.pointer (some ⟨a,0,none⟩)))(t:w.cell? ⟨a,0,none⟩=some (.pointer (some ⟨g,0,none⟩)))(u:w.cell? ⟨a,1,none⟩=some (.string (str i)))(v:i.length<=20)(x:w.cell? ⟨j,0,none⟩=some (.slice A n c))(m:Ending->World->Prop)(d:∀q,Calls Tryz.prog 137 #[.pointer (some ⟨g,0,none⟩),.string (str (dB i)),.int .i64 0,.slice A n c] (w.drewN q) m) (k:∀e w',m e w'->e=.returned (.int .i64 0)/\w'.cell? ⟨f,0,none⟩=some (.pointer (some ⟨a,0,none⟩))/\w'.cell? ⟨a,0,none⟩=some (.pointer (some ⟨g,0,none⟩))/\w'.cell? ⟨j,0,none⟩=some (.slice A n c)):Calls Tryz.prog 144 #[.pointer (some ⟨f,0,none⟩),.pointer (some ⟨j,0,none⟩)] w m:=by
 have p:=J (λq=>kO (w.drewN q) a i u v);replace d:=J d;replace k:=J k;go_enter Tryz.func144,Tryz.ntmps144;go_wp2_with fail;go_region_held3 (λw'=>w'.cell? ⟨f,0,none⟩=some (.pointer (some ⟨a,0,none⟩))/\w'.cell? ⟨a,0,none⟩=some (.pointer (some ⟨g,0,none⟩))/\w'.cell? ⟨j,0,none⟩=some (.slice A n c)) (first|exact⟨s,t,x⟩|exact r) (first
  |(go_at_call 49;refine(p.o 1).mono ?_;rintro e l ⟨rfl,rfl⟩)
  |(go_at_call 137;refine(d.o 1).mono ?_;intro e l b;have y:=(k.o e l b).1;have r:=(k.o e l b).2;subst y;replace b:=J b))
 all_goals
  go_wp2_with fail;first|exact b.o|(go_ret;exact b.o)
theorem Ho(w:World)(d a f:Nat)(g:List UInt8)(n:w.cell? ⟨d,0,none⟩=some (.pointer (some ⟨a,0,none⟩)))(p:w.cell? ⟨a,0,none⟩=some (.pointer (some ⟨f,0,none⟩)))(r:w.cell? ⟨a,1,none⟩=some (.string (str g)))(s:g.length<=20)(k:Ending->World->Prop)(c:∀q,Calls Tryz.prog 138 #[.pointer (some ⟨f,0,none⟩),.string (str (dB g))] (w.drewN q) k) (i:∀e w',k e w'->e=.returned (.int .i64 0)/\w'.cell? ⟨d,0,none⟩=some (.pointer (some ⟨a,0,none⟩))/\w'.cell? ⟨a,0,none⟩=some (.pointer (some ⟨f,0,none⟩))):Calls Tryz.prog 145 #[.pointer (some ⟨d,0,none⟩)] w k:=by
 have l:=J (λq=>kO (w.drewN q) a g r s);replace c:=J c;replace i:=J i;go_enter Tryz.func145,Tryz.ntmps145;go_wp2_with fail;go_region_held3 (λw'=>w'.cell? ⟨d,0,none⟩=some (.pointer (some ⟨a,0,none⟩))/\w'.cell? ⟨a,0,none⟩=some (.pointer (some ⟨f,0,none⟩))) (first|exact⟨n,p⟩|exact m) (first
  |(go_at_call 49;refine(l.o 1).mono ?_;rintro e j ⟨rfl,rfl⟩)
  |(go_at_call 138;refine(c.o 1).mono ?_;intro e j b;have t:=(i.o e j b).1;have m:=(i.o e j b).2;subst t;replace b:=J b))
 all_goals
  go_wp2_with fail;first|exact b.o|(go_ret;exact b.o)
theorem Hq(w:World)(d a f:Nat)(g:List UInt8)(n:w.cell? ⟨d,0,none⟩=some (.pointer (some ⟨a,0,none⟩)))(p:w.cell? ⟨a,0,none⟩=some (.pointer (some ⟨f,0,none⟩)))(r:w.cell? ⟨a,1,none⟩=some (.string (str g)))(s:g.length<=20)(k:Ending->World->Prop)(c:∀q,Calls Tryz.prog 138 #[.pointer (some ⟨f,0,none⟩),.string (str (dB g))] (w.drewN q) k) (i:∀e w',k e w'->e=.returned (.int .i64 0)/\w'.cell? ⟨d,0,none⟩=some (.pointer (some ⟨a,0,none⟩))/\w'.cell? ⟨a,0,none⟩=some (.pointer (some ⟨f,0,none⟩))):Calls Tryz.prog 147 #[.pointer (some ⟨d,0,none⟩)] w k:=by
 have l:=J (λq=>kO (w.drewN q) a g r s);replace c:=J c;replace i:=J i;go_enter Tryz.func147,Tryz.ntmps147;go_wp2_with fail;go_region_held3 (λw'=>w'.cell? ⟨d,0,none⟩=some (.pointer (some ⟨a,0,none⟩))/\w'.cell? ⟨a,0,none⟩=some (.pointer (some ⟨f,0,none⟩))) (first|exact⟨n,p⟩|exact m) (first
  |(go_at_call 49;refine(l.o 1).mono ?_;rintro e j ⟨rfl,rfl⟩)
  |(go_at_call 138;refine(c.o 1).mono ?_;intro e j b;have t:=(i.o e j b).1;have m:=(i.o e j b).2;subst t;replace b:=J b))
 all_goals
  go_wp2_with fail;first|exact b.o|(go_ret;exact b.o)
theorem Hr(w:World)(d a f:Nat)(g:List UInt8)(n:w.cell? ⟨d,0,none⟩=some (.pointer (some ⟨a,0,none⟩)))(p:w.cell? ⟨a,0,none⟩=some (.pointer (some ⟨f,0,none⟩)))(r:w.cell? ⟨a,1,none⟩=some (.string (str g)))(s:g.length<=20)(k:Ending->World->Prop)(c:∀q,Calls Tryz.prog 95 #[.pointer (some ⟨f,0,none⟩),.string (str (dB g)),.int .i64 0] (w.drewN q) k) (i:∀e w',k e w'->e=.returned (.int .i64 0)/\w'.cell? ⟨d,0,none⟩=some (.pointer (some ⟨a,0,none⟩))/\w'.cell? ⟨a,0,none⟩=some (.pointer (some ⟨f,0,none⟩))):Calls Tryz.prog 149 #[.pointer (some ⟨d,0,none⟩)] w k:=by
 have l:=J (λq=>kO (w.drewN q) a g r s);replace c:=J c;replace i:=J i;go_enter Tryz.func149,Tryz.ntmps149;go_wp2_with fail;go_region_held3 (λw'=>w'.cell? ⟨d,0,none⟩=some (.pointer (some ⟨a,0,none⟩))/\w'.cell? ⟨a,0,none⟩=some (.pointer (some ⟨f,0,none⟩))) (first|exact⟨n,p⟩|exact m) (first
  |(go_at_call 49;refine(l.o 1).mono ?_;rintro e j ⟨rfl,rfl⟩)
  |(go_at_call 95;refine(c.o 1).mono ?_;intro e j b;have t:=(i.o e j b).1;have m:=(i.o e j b).2;subst t;replace b:=J b))
 all_goals
  go_wp2_with fail;first|exact b.o|(go_ret;exact b.o)
theorem Hs(w:World)(d f g:Nat)(v:Value)(l:w.cell? ⟨d,0,none⟩=some (.pointer (some ⟨f,0,none⟩)))(m:w.cell? ⟨g,0,none⟩=some v)(i:Ending->World->Prop)(a:Calls Tryz.prog 94 #[.pointer (some ⟨f,0,none⟩),v] w i) (c:∀e w',i e w'->e=.returned (.int .i64 0)):Calls Tryz.prog 148 #[.pointer (some ⟨d,0,none⟩),.pointer (some ⟨g,0,none⟩)] w i:=by replace a:=J a;replace c:=J c;go_enter Tryz.func148,Tryz.ntmps148;go_wp2_with fail;refine a.o.mono ?_;intro e j b;have k:=c.o e j b;subst k;replace b:=J b;go_wp2_with fail;first|exact b.o|(go_ret;exact b.o)
def uV:Array Value:=#[.int .u8 100,.int .u8 111,.int .u8 110,.int .u8 101]
def tC:Obj:=.cells uV 5 (4,5)
def convDone:Op:=Op.convert 23 23 (Operand.tmp 11)
theorem Ht(w:World)(i a j:Nat)(d:List UInt8)(k n c:Nat)(A:Option Addr)(p:w.cell? ⟨i,0,none⟩=some (.pointer (some ⟨a,0,none⟩)))(r:w.cell? ⟨a,0,none⟩=some (.pointer (some ⟨j,0,none⟩)))(t:w.cell? ⟨a,1,none⟩=some (.string (str d)))(u:d.length<=20)(s:w.cell? ⟨k,0,none⟩=some (.slice A n c))(v:Ending->World->Prop)(f:∀q,Calls Tryz.prog 137 #[.pointer (some ⟨j,0,none⟩),.string (str (dB d)),.int .i64 (n:Int),.slice (some ⟨w.heap.size,0,none⟩) 4 4] ((w.alloc tC).drewN q) v)(l:∀e w',v e w'->e=.returned (.int .i64 0)/\w'.cell? ⟨i,0,none⟩=some (.pointer (some ⟨a,0,none⟩))/\w'.cell? ⟨a,0,none⟩=some (.pointer (some ⟨j,0,none⟩))/\w'.cell? ⟨k,0,none⟩=some (.slice A n c)):Calls Tryz.prog 146 #[.pointer (some ⟨i,0,none⟩),.pointer (some ⟨k,0,none⟩)] w v:=by
 have D:=World.block_lt_of_cell? w _ p;have x:=World.block_lt_of_cell? w _ r;have E:=World.block_lt_of_cell? w _ s;have b:∀o,(w.alloc o).cell? ⟨i,0,none⟩=some (.pointer (some ⟨a,0,none⟩))/\(w.alloc o).cell? ⟨a,0,none⟩=some (.pointer (some ⟨j,0,none⟩))/\(w.alloc o).cell? ⟨k,0,none⟩=some (.slice A n c):=λo=>⟨by rw[World.cell?_alloc_lt _ _ _ D];exact p,by rw[World.cell?_alloc_lt _ _ _ x];exact r,by rw[World.cell?_alloc_lt _ _ _ E];exact s⟩
 have y:=J (kO w.drew a d t u:Calls Tryz.prog 49 #[.pointer (some ⟨a,0,none⟩)] w.drew λe w'=>e=.returned (.string (str (dB d)))/\w.drew=w');have z:Hid (∀o,Calls Tryz.prog 49 #[.pointer (some ⟨a,0,none⟩)] ((w.alloc o).drew) λe w'=>e=.returned (.string (str (dB d)))/\(w.alloc o).drew=w'):=J λo=>kO _ a d (by show(w.alloc o).cell? _=_;rw[World.cell?_alloc_lt w o ⟨a,1,none⟩ x];exact t) u;have F:(convert 23 23 (.slice (some ⟨w.heap.size,0,none⟩) 4 4)).run Tryz.prog ((w.alloc (.cells uV 5)).drew)=.ok (.slice (some ⟨w.heap.size,0,none⟩) 4 4) ((w.alloc tC).drew):=Lib.run_convert_bytes_const (P:=Tryz.prog) w.drew 23 5 uV 4 4 Tryz.underlying23 Tryz.underlying5;unfold uV at F;refine bf ?_ f l b;clear f l b;intro f l b;go_enter Tryz.func146,Tryz.ntmps146;go_wp2_with fail;have B:convDone=Op.convert 23 23 (Operand.tmp 11):=rfl;rw[<-B];go_region_held3 (λw'=>w'.cell? ⟨i,0,none⟩=some (.pointer (some ⟨a,0,none⟩))/\w'.cell? ⟨a,0,none⟩=some (.pointer (some ⟨j,0,none⟩))/\w'.cell? ⟨k,0,none⟩=some (.slice A n c)) (first|exact⟨p,r,s⟩|exact b.o _|exact C) (first
  |(go_at_call 49;refine y.o.mono ?_;rintro e m ⟨rfl,rfl⟩)
  |(go_at_call 49;refine(z.o _).mono ?_;rintro e m ⟨rfl,rfl⟩)
  |(go_at_call 137;refine(f.o 1).mono ?_;intro e m g;have G:=(l.o e m g).1;have C:=(l.o e m g).2;subst G;replace g:=J g))
 all_goals
  go_wp2_with fail;first|exact g.o|(go_ret;exact g.o)
def C0(w:World)(c d f b a:Nat)(i j:List UInt8)(k l m n:Nat)(o:Value)(e:Ending)(w':World):Prop:=e=.returned (.int .i64 0)/\Hid (∃g,lh w' c d f b a i j k 8 512 l m n g o/\qb w w'/\Fr c d f w w')
theorem Hu{w:World}{a:Nat}{p:List UInt8}(b:ah w a 306 (bv p).toArray)(c:p.length=512):BK w a 512:=⟨λi d=>⟨p[i]'(by omega),by rw[b.cell];have:=vP (l:=p) (k:=i) (by omega);simpa using this⟩,306,_,(0,0),b,by decide,by decide,by decide⟩
theorem JS(w:World)(y f z d b A B t C g V c r:Nat)(a p:List UInt8)(ab D:Value)(W:Array Value)(h:lh w y f z d b (ku a) (dB a) A 0 0 B t C ab D)(S:a.length<=20)(P:d<=65536)(bb:t+8<=d)(ba:b<=900000)(m:ah w g 115 W) (K:W[0]?=some (iW f)) (T:W[1]?=some (.string (str a)))(bc:w.cell? ⟨V,0,none⟩=some (.int .i64 0)) (bd:w.cell? ⟨V,1,none⟩=some (.slice (some ⟨r,0,none⟩) 512 512)) (L:ah w r 306 (bv p).toArray) (ac:p.length=512):Calls Tryz.prog 94 #[.pointer (some ⟨g,0,none⟩),.slice (some ⟨V,0,none⟩) 1 c] w (C0 w y f z d (b+1) (ku a) (dB a) A B t C D):=by
 have U:(ku a).length<=24:=by simp[ku];omega
 obtain⟨k,u⟩:=I (w.alloc (.cells #[.int .i64 0,.slice (some ⟨r,0,none⟩) 512 512] 224));obtain⟨E,n⟩:=I (w.heap.size);have l:Below w.heap.size w k:=by rw[u];exact(Below.refl w.heap.size w).alloc (aa _) _
 have F:=h.below l;have i:=m.below l m.lt;have G:=L.below l L.lt;have q:ah k E 224 #[.int .i64 0,.slice (some ⟨r,0,none⟩) 512 512]:=by rw[u,n];exact ah.new w 224 _
 have a0:k.cell? ⟨g,0,none⟩=some (.pointer (some ⟨f,0,none⟩)):=(i.cell 0).trans K;have an:k.cell? ⟨g,1,none⟩=some (.string (str a)):=(i.cell 1).trans T;have ao:k.cell? ⟨E,0,none⟩=some (.int .i64 0):=q.cell 0;have a3:k.cell? ⟨E,1,none⟩=some (.slice (some ⟨r,0,none⟩) 512 512):=q.cell 1;have ad:=J (tu k.drew g a an S);have ae:Hid (Calls Tryz.prog 137 #[.pointer (some ⟨f,0,none⟩),.string (str (ku a)),.int .i64 0,.slice (some ⟨r,0,none⟩) 512 512] k.drew λe w'=>e=.returned (.int .i64 0)/\Hid (C0 w y f z d (b+1) (ku a) (dB a) A B t C D (.returned (.int .i64 0)) w'/\w'.cell? ⟨g,0,none⟩=some (.pointer (some ⟨f,0,none⟩))/\w'.cell? ⟨g,1,none⟩=some (.string (str a))/\w'.cell? ⟨E,0,none⟩=some (.int .i64 0)/\w'.cell? ⟨E,1,none⟩=some (.slice (some ⟨r,0,none⟩) 512 512))):=by have ap:=JQ k.drew y f z d b A 0 0 B t C r 512 512 0 (ku a) (dB a) ab D (F.drewN 1) U P (by omega) (by omega) (by omega) (by omega) (by omega) (by omega) (by omega) (by omega) (by omega) (Hu (w:=k.drew) G ac);refine J (ap.mono ?_);rintro e w' ⟨rfl,X⟩;obtain⟨H,M,v,N⟩:=X.o;have j:=qb.blk v (ah.drew i) (by decide) (by decide) (by decide);have O:=qb.blk v (ah.drew q) (by decide) (by decide) (by decide);have x:Below w.heap.size w k.drew:=l.drew;refine⟨rfl,J ⟨⟨rfl,J ⟨H,M,(qb.ag x).trans v,(R.ag x).trans N λ_ _ h=>h⟩⟩,(j.cell 0).trans K,(j.cell 1).trans T,O.cell 0,O.cell 1⟩⟩
 replace n:=n;refine dS ?_ h F m i L G q l;clear h F m i L G q l;intro h F m i L G q l;go_enter Tryz.func94,Tryz.ntmps94;go_wp2_with fail;go_loopw [6,7,10] (λ_ _ v10 Q=>(v10=.int .i64 0/\Q=w)\/(v10=.int .i64 1/\Hid (C0 w y f z d (b+1) (ku a) (dB a) A B t C D (.returned (.int .i64 0)) Q/\Q.cell? ⟨g,0,none⟩=some (.pointer (some ⟨f,0,none⟩))/\Q.cell? ⟨g,1,none⟩=some (.string (str a))))) (λ_ _ v10 _=>1-(intOf v10).toNat)
 case atStart=>exact .inl ⟨rfl,rfl⟩
 case round=>
  rcases hrel with⟨rfl,rfl⟩|⟨rfl,a1⟩
  ·go_upto_region 4 with(fail)
   rw[<-u,<-n];replace u:=J u;replace n:=J n;go_region_held3 (λw'=>w'.cell? ⟨g,0,none⟩=some (.pointer (some ⟨f,0,none⟩))/\w'.cell? ⟨E,0,none⟩=some (.int .i64 0)/\w'.cell? ⟨E,1,none⟩=some (.slice (some ⟨r,0,none⟩) 512 512)) (first|exact⟨a0,ao,a3⟩|exact⟨s.o.2.1,s.o.2.2.2.1,s.o.2.2.2.2⟩) (first
    |(go_at_call 47;refine ad.o.mono ?_;rintro e a2 ⟨rfl,rfl⟩)
    |(go_at_call 137;refine ae.o.mono ?_;rintro e a4 ⟨rfl,s⟩))
   all_goals
    go_wp2_with fail;go_roundw
    case rel=>exact .inr ⟨rfl,J ⟨s.o.1,s.o.2.1,s.o.2.2.1⟩⟩
    case measure=>simp[intOf]
  ·obtain⟨a5,a6,a7⟩:=a1.o;obtain⟨_,af⟩:=a5;obtain⟨H,M,v,N⟩:=af.o;have Y:=J (tu wr.drew g a a7 S);have j:=qb.blk v m.o (by decide) (by decide) (by decide);have al:Hid (Calls Tryz.prog 138 #[.pointer (some ⟨f,0,none⟩),.string (str (ku a))] wr.drew λe w'=>e=.returned (.int .i64 0)/\Hid (C0 w y f z d (b+1) (ku a) (dB a) A B t C D (.returned (.int .i64 0)) w'/\w'.cell? ⟨g,0,none⟩=some (.pointer (some ⟨f,0,none⟩)))):=by refine J ((Li wr.drew y f z d (b+1) A 8 512 B t C (ku a) (dB a) H D (M.drewN 1) U (by omega)).mono ?_);rintro e w' ⟨rfl,X⟩;obtain⟨a8,am,a9⟩:=X.o;have Z:=qb.blk am (ah.drew j) (by decide) (by decide) (by decide);have x:Below wr.heap.size wr wr.drew:=(Below.refl _ _).drew;exact⟨rfl,J ⟨⟨rfl,J ⟨H,a8,v.trans ((qb.ag x).trans am),N.trans ((R.ag x).trans a9 λ_ _ h=>h)⟩⟩,(Z.cell 0).trans K⟩⟩
   replace j:=J j;replace M:=J M;replace v:Hid _:=J v;replace N:Hid _:=J N;go_wp2_with fail;go_region_held3 (λw'=>w'.cell? ⟨g,0,none⟩=some (.pointer (some ⟨f,0,none⟩))) (first|exact a6|exact s.o.2) (first
    |(go_at_call 47;refine Y.o.mono ?_;rintro e a2 ⟨rfl,rfl⟩)
    |(go_at_call 138;refine al.o.mono ?_;rintro e a4 ⟨rfl,s⟩))
   all_goals
    go_wp2_with fail;go_ret;exact s.o.1
end Go.Proofs.YtajdeapdgbnahaaGreatDoor
