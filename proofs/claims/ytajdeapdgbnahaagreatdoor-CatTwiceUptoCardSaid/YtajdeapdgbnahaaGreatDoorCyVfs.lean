/-
  The store in memory: two files at most, their contents left open; contracts of New, Down, at, Len, need, burn, changed.
-/
import Derived.Test.YtajdeapdgbnahaaGreatDoorCyGr12
import Derived.Test.YtajdeapdgbnahaaGreatDoorCyGr4
namespace Go.Proofs.YtajdeapdgbnahaaGreatDoor
set_option linter.unusedVariables false
set_option maxRecDepth 100000
set_option maxHeartbeats 1000000
open Go.RowKit Go.Maps
def BF(v:Value):Option (DataW Value×List MemPlace):=some (.held v,[])
def cnt1:Option Nat->Nat
 |some _=>1
 |none=>0
def iW(g:Nat):Value:=.pointer (some ⟨g,0,none⟩)
def rz(da la:List UInt8)(fd fl:Option Nat):DataW Value:=
 let a:DataW Value:=match fd with|some g=>DataW.put (.map []) (.string da) (.held (iW g))|none=>.map []
 match fl with|some g=>a.put (.string la) (.held (iW g))|none=>a
def qz(xs:List Value):Prop:=∀(j:Nat) (u:Value),xs[j]?=some u->u.oneCell'=true
structure dO (w:World) (B g k n:Nat) (v:Value):Prop where
 st:∃st:Nat,ah w g 216 #[v,.int .i64 (n:Int),.int .i64 (st:Int)]
 row:∃xs,w.ownsRow B 221 129 v k xs/\qz xs
 gB:B<=g
structure dY (w:World) (B gf bm most stamp:Nat) (da la:List UInt8) (fd fl:Option Nat):Prop where
 st:ah w gf 74 #[.int .i64 (most:Int),.int .i64 (stamp:Int),.int .i64 (-1),.bool false,.map (some bm)]
 mp:∃nn,w.ownsMap Tryz.prog 9 BF bm nn (rz da la fd fl)/\nn<=cnt1 fd+cnt1 fl
 ne:da≠la
 gB:B<=gf
 bB:B<=bm
theorem tg(w:World)(n:Nat)(f:n<=1000000000):Calls Tryz.prog 139 #[.int .i64 (n:Int)] w λe w'=>e=.returned (.int .i64 (((n+63)/64:Nat):Int))/\w=w':=by
 obtain⟨D,a⟩:=I ((n+63)/64);rw[<-a];have c:((n:Int)+63).tdiv 64=(D:Int):=by rw[Int.tdiv_eq_ediv_of_nonneg (by omega)];omega
 have d:((n:Int)+63)/64=(D:Int):=by omega
 have b:((n:Int)+64-1)/64=(D:Int):=by omega
 replace b:=J b;replace a:=J a;clear c d;go_enter Tryz.func139,Tryz.ntmps139;go_wp2_with fail;go_ret;exact⟨bV b.o,rfl⟩
theorem IL(w:World)(B gf bm most stamp:Nat)(da la:List UInt8)(fd fl:Option Nat)(h:dY w B gf bm most stamp da la fd fl):Calls Tryz.prog 44 #[.pointer (some ⟨gf,0,none⟩)] w λe w'=>e=.returned (.bool false)/\w=w':=by have a:=h.st.cell 3;replace h:=J h;go_enter Tryz.func44,Tryz.ntmps44;go_wp2_with fail;go_ret;exact⟨rfl,rfl⟩
theorem mM(w:World)(B gf bm most stamp:Nat)(da la:List UInt8)(fd fl:Option Nat)(h:dY w B gf bm most stamp da la fd fl):Calls Tryz.prog 133 #[.pointer (some ⟨gf,0,none⟩)] w λe w'=>e=.returned (.bool true)/\w=w':=by have a:=h.st.cell 2;replace h:=J h;go_enter Tryz.func133,Tryz.ntmps133;go_wp2_with fail;go_ret;exact⟨rfl,rfl⟩
def C8(w:World)(n:Nat)(e:Ending)(w':World):Prop:=∃gf bm,e=.returned (.pointer (some ⟨gf,0,none⟩))/\(∀da la,da≠la->dY w' w.heap.size gf bm n 0 da la none none)/\Below w.heap.size w w'
theorem zZ(w:World)(n:Nat)(l:1<=n)(m:n<=65536):Calls Tryz.prog 7 #[.int .i64 (n:Int)] w (C8 w n):=by
 have f:(1:Int)<=(n:Int):=by omega
 have i:(n:Int)<=65536:=by omega
 have o:min (max (n:Int) 1) 65536=(n:Int):=by omega
 have j:=@run_makeMap Tryz.prog;go_enter Tryz.func7,Tryz.ntmps7;go_wp2_with fail;go_ret;have a:(w.alloc (.map #[] 0)).heap.size=w.heap.size+1:=World.size_alloc _ _;have d:=((Below.refl w.heap.size w).alloc (aa _) (.map #[] 0)).alloc (by rw[a];omega) (.cells #[.int .i64 (n:Int),.int .i64 0,.int .i64 (-1),.bool false,.map (some w.heap.size)] 74);have b:=ah.new (w.alloc (.map #[] 0)) 74 #[.int .i64 (n:Int),.int .i64 0,.int .i64 (-1),.bool false,.map (some w.heap.size)];rw[a]at b;have e:=(World.ownsMap_made w Tryz.prog 9 BF).alloc (.cells #[.int .i64 (n:Int),.int .i64 0,.int .i64 (-1),.bool false,.map (some w.heap.size)] 74);exact⟨w.heap.size+1,w.heap.size,rfl,λda la c=>⟨b,⟨0,e,Nat.zero_le _⟩,c,by omega,aa _⟩,d⟩
theorem xe(l:List UInt8)(a:l.length<=1000):keyOf Tryz.prog 9 (.string (str l))=some (.string l):=by have:=Go.WideMaps.keyOf_string_mk (P:=Tryz.prog) (k:=9) Tryz.underlying9 (s:=str l) (by simp[str,maxLen,ByteArray.size];omega);rw[this];simp[str]
theorem nJ(l:List UInt8):WideAt.IsKeyLit (.string l):=trivial
def Fg:Option Nat->Value
 |some g=>iW g
 |none=>.pointer none
section
variable {da la:List UInt8}{fd fl:Option Nat}
theorem Hb(a:da≠la):(rz da la fd fl).atKey (.string da) (.held (.pointer none))=.held (Fg fd):=by
 have b:(Lit.string da)≠.string la:=λe=>a (by injection e);cases fd<;>cases fl
 ·rfl
 ·show((DataW.map []).put (.string la) _).atKey (.string da) _=_;rw[atKey_put_other b];rfl
 ·show((DataW.map []).put (.string da) _).atKey (.string da) _=_;rw[atKey_put_same isMap_empty (nJ _)];rfl
 ·show(((DataW.map []).put (.string da) _).put (.string la) _).atKey (.string da) _=_;rw[atKey_put_other b,atKey_put_same isMap_empty (nJ _)];rfl
theorem Hd(a:da≠la):(rz da la fd fl).atKey (.string la) (.held (.pointer none))=.held (Fg fl):=by
 have b:(Lit.string la)≠.string da:=λe=>a (by injection e with e;exact e.symm);cases fd<;>cases fl
 ·rfl
 ·show((DataW.map []).put (.string la) _).atKey (.string la) _=_;rw[atKey_put_same isMap_empty (nJ _)];rfl
 ·show((DataW.map []).put (.string da) _).atKey (.string la) _=_;rw[atKey_put_other b];rfl
 ·show(((DataW.map []).put (.string da) _).put (.string la) _).atKey (.string la) _=_;rw[atKey_put_same (isMap_empty.put _ _) (nJ _)];rfl
end
section
variable {w:World}{B gf bm most stamp:Nat}{da la:List UInt8}{fd fl:Option Nat}
theorem Dd(w:World):(zeroValue 211).run Tryz.prog w=.ok (.pointer none) w:=by kernel_rfl
theorem dY.G7(h:dY w B gf bm most stamp da la fd fl)(b:da.length<=1000):(Instr.lookup 72 (.map (some bm)) (.string (str da)) false).run Tryz.prog w=.ok (Fg fd) w:=by obtain⟨e,c,_⟩:=h.mp;obtain⟨v,ps,d,a⟩:=c.lookup (Go.Maps.string_keyed Tryz.underlying9) Tryz.underlying72 (Dd w) (zd:=.held (.pointer none)) (zp:=[]) rfl (xe da b);rw[Hb h.ne]at a;simp only[BF,Option.some.injEq,Prod.mk.injEq,DataW.held.injEq]at a;rw[d,a.1]
theorem dY.G9(h:dY w B gf bm most stamp da la fd fl)(b:la.length<=1000):(Instr.lookup 72 (.map (some bm)) (.string (str la)) false).run Tryz.prog w=.ok (Fg fl) w:=by obtain⟨e,c,_⟩:=h.mp;obtain⟨v,ps,d,a⟩:=c.lookup (Go.Maps.string_keyed Tryz.underlying9) Tryz.underlying72 (Dd w) (zd:=.held (.pointer none)) (zp:=[]) rfl (xe la b);rw[Hd h.ne]at a;simp only[BF,Option.some.injEq,Prod.mk.injEq,DataW.held.injEq]at a;rw[d,a.1]
end
def Names(a da la:List UInt8)(fd fl x:Option Nat):Prop:=(a=da/\x=fd)\/(a=la/\x=fl)
theorem dY.look{w:World}{B gf bm most stamp:Nat}{da la a:List UInt8}{fd fl x:Option Nat}(h:dY w B gf bm most stamp da la fd fl)(c:Names a da la fd fl x)(b:a.length<=1000):(Instr.lookup 72 (.map (some bm)) (.string (str a)) false).run Tryz.prog w=.ok (Fg x) w:=by
 rcases c with⟨rfl,rfl⟩|⟨rfl,rfl⟩
 ·exact h.G7 b
 ·exact h.G9 b
theorem De(w:World)(B gf bm most stamp:Nat)(da la a:List UInt8)(fd fl x:Option Nat)(h:dY w B gf bm most stamp da la fd fl)(d:Names a da la fd fl x)(f:a.length<=1000):Calls Tryz.prog 131 #[.pointer (some ⟨gf,0,none⟩),.string (str a)] w λe w'=>e=.returned (.tuple #[Fg x,.int .i64 ((if x=none then 6 else 0:Nat):Int)])/\w=w':=by
 have b:=h.look d f;have i:=h.st.cell 3;have j:=h.st.cell 4;replace h:=J h;cases x with
 |none=>
  have c:(Instr.lookup 72 (.map (some bm)) (.string (str a)) false).run Tryz.prog w=.ok (.pointer none) w:=b
  clear b
  go_enter Tryz.func131,Tryz.ntmps131
  go_wp2_with fail
  go_ret2
  exact⟨rfl,rfl⟩
 |some g=>
  have c:(Instr.lookup 72 (.map (some bm)) (.string (str a)) false).run Tryz.prog w=.ok (.pointer (some ⟨g,0,none⟩)) w:=b
  clear b
  go_enter Tryz.func131,Tryz.ntmps131
  go_wp2_with fail
  go_ret2
  exact⟨rfl,rfl⟩
theorem pI(w:World)(B gf bm most stamp g:Nat)(da la a:List UInt8)(fd fl:Option Nat)(h:dY w B gf bm most stamp da la fd fl)(c:Names a da la fd fl (some g))(d:a.length<=1000):Calls Tryz.prog 131 #[.pointer (some ⟨gf,0,none⟩),.string (str a)] w λe w'=>e=.returned (.tuple #[.pointer (some ⟨g,0,none⟩),.int .i64 0])/\w=w':=(De w B gf bm most stamp da la a fd fl (some g) h c d).mono λe w' b=>⟨by rw[b.1];rfl,b.2⟩
theorem sZ(w:World)(B gf bm most stamp:Nat)(da la a:List UInt8)(fd fl:Option Nat)(h:dY w B gf bm most stamp da la fd fl)(c:Names a da la fd fl none)(d:a.length<=1000):Calls Tryz.prog 131 #[.pointer (some ⟨gf,0,none⟩),.string (str a)] w λe w'=>e=.returned (.tuple #[.pointer none,.int .i64 6])/\w=w':=(De w B gf bm most stamp da la a fd fl none h c d).mono λe w' b=>⟨by rw[b.1];rfl,b.2⟩
theorem vF(w:World)(B gf bm most stamp:Nat)(da la a:List UInt8)(fd fl:Option Nat)(h:dY w B gf bm most stamp da la fd fl)(b:Names a da la fd fl none)(c:a.length<=1000):Calls Tryz.prog 89 #[.pointer (some ⟨gf,0,none⟩),.string (str a)] w λe w'=>e=.returned (.tuple #[.int .i64 0,.bool false])/\w=w':=by
 have d:=J (sZ w B gf bm most stamp da la a fd fl h b c);replace h:=J h;go_enter Tryz.func89,Tryz.ntmps89;go_wp2_with fail;refine d.o.mono ?_;rintro e f ⟨rfl,rfl⟩;go_wp2_with fail
 go_ret2
 exact⟨rfl,rfl⟩
theorem qG(w:World)(B gf bm most stamp g k n:Nat)(da la a:List UInt8)(fd fl:Option Nat)(h:dY w B gf bm most stamp da la fd fl)(d:Names a da la fd fl (some g))(f:a.length<=1000)(v:Value)(b:dO w B g k n v):Calls Tryz.prog 89 #[.pointer (some ⟨gf,0,none⟩),.string (str a)] w λe w'=>e=.returned (.tuple #[.int .i64 (n:Int),.bool true])/\w=w':=by
 have i:=J (pI w B gf bm most stamp g da la a fd fl h d f);obtain⟨st,c⟩:=b.st;have j:=c.cell 1;refine bf ?_ h b c;clear h b c;intro h b c;go_enter Tryz.func89,Tryz.ntmps89;go_wp2_with fail;refine i.o.mono ?_;rintro e l ⟨rfl,rfl⟩;go_wp2_with fail
 go_ret2
 exact⟨rfl,rfl⟩
section
variable {w w':World}{B gf bm most stamp g k n:Nat}{da la:List UInt8}{fd fl:Option Nat}{v:Value}
theorem dY.only(h:dY w B gf bm most stamp da la fd fl){S:Nat->Prop}(a:R S w w')(c:¬S gf)(d:¬S bm):dY w' B gf bm most stamp da la fd fl:=by obtain⟨e,⟨f,clock,b,j⟩,i⟩:=h.mp;exact⟨a.blk h.st c,⟨e,⟨f,clock,(a.block bm (Array.getElem?_eq_some_iff.1 b).1 d).trans b,j⟩,i⟩,h.ne,h.gB,h.bB⟩
theorem dY.zo(h:dY w B gf bm most stamp da la fd fl){t:TypeId}{b:Array Value}(a:ah w g t b):bm≠g:=by obtain⟨d,⟨e,clock,c,_⟩,_⟩:=h.mp;rintro rfl;unfold ah at a;rw[c]at a;cases a
theorem dO.only(h:dO w B g k n v){S:Nat->Prop}(a:R S w w')(b:¬S g)(c:∀j,v.ownBlock=some j->¬S j):dO w' B g k n v:=by obtain⟨st,d⟩:=h.st;obtain⟨xs,e,f⟩:=h.row;exact⟨⟨st,a.blk d b⟩,⟨xs,a.row e c,f⟩,h.gB⟩
theorem dO.L8(h:dO w B g k n v):v.ownBlock≠some g:=by obtain⟨st,a⟩:=h.st;obtain⟨xs,b,_⟩:=h.row;exact au b a (by decide)
theorem dO.CW(h:dO w B g k n v)(a:dY w B gf bm most stamp da la fd fl):gf≠g/\v.ownBlock≠some gf:=by obtain⟨st,b⟩:=h.st;obtain⟨xs,c,_⟩:=h.row;exact⟨ah.iH a.st b (by decide),au c a.st (by decide)⟩
end
def Mt(w:World)(B gf bm most stamp:Nat)(da la:List UInt8)(fd fl:Option Nat)(g k n:Nat)(v:Value)(e:Ending)(w':World):Prop:=e=.returned (.int .i64 0)/\dY w' B gf bm most (stamp+1) da la fd fl/\dO w' B g k n v/\R (λj=>j=gf\/j=g) w w'
theorem mN(w:World)(B gf bm most stamp g k n:Nat)(da la:List UInt8)(fd fl:Option Nat)(v:Value)(h:dY w B gf bm most stamp da la fd fl)(d:dO w B g k n v)(K:stamp<=1000000):Calls Tryz.prog 134 #[.pointer (some ⟨gf,0,none⟩),.pointer (some ⟨g,0,none⟩)] w (Mt w B gf bm most stamp da la fd fl g k n v):=by
 obtain⟨st,f⟩:=d.st;obtain⟨xs,t,m⟩:=d.row;replace m:=J m;have x:=(d.CW h).1;have C:=h.zo f;have D:=h.zo h.st;have L:=h.st.cell 1;have M:=h.st.frozen 1;have N:=f.cell 2;have r2:=f.frozen 2;obtain⟨b,l⟩:=I (stamp+1);have O:(stamp:Int)+1=(b:Int):=by omega
 have c:=f.far (p:=⟨gf,1,none⟩) (λe=>x e.symm) (.int .i64 (b:Int));have P:=c.cell 2;have Q:=c.frozen 2;have y:R (λj=>j=gf\/j=g) w (w.setCell ⟨gf,1,none⟩ (.int .i64 (b:Int))):=(R.refl _ w).setCell (p:=⟨gf,1,none⟩) (λ_=>.inl rfl) _;have q:=y.setCell (p:=⟨g,2,none⟩) (λ_=>.inr rfl) (.int .i64 (b:Int));have z:=(h.st.aK 1 (.int .i64 (b:Int))).far (p:=⟨g,2,none⟩) x (.int .i64 (b:Int));have A:=c.aK 2 (.int .i64 (b:Int));have r:=q.row t (λj E e=>e.elim (λe=>(d.CW h).2 (by rw[E,e])) (λe=>d.L8 (by rw[E,e])));have s:∃u,(((w.setCell ⟨gf,1,none⟩ (.int .i64 (b:Int))).setCell ⟨g,2,none⟩ (.int .i64 (b:Int)))).ownsMap Tryz.prog 9 BF bm u (rz da la fd fl)/\u<=cnt1 fd+cnt1 fl:=by obtain⟨u,F,G⟩:=h.mp;exact⟨u,(F.setCell (a:=⟨gf,1,none⟩) D _).setCell (a:=⟨g,2,none⟩) C _,G⟩
 have H:=(h.st.aK 1 (.int .i64 (b:Int))).cell 1;have i:Hid (dY ((w.setCell ⟨gf,1,none⟩ (.int .i64 (b:Int))).setCell ⟨g,2,none⟩ (.int .i64 (b:Int))) B gf bm most b da la fd fl/\dO ((w.setCell ⟨gf,1,none⟩ (.int .i64 (b:Int))).setCell ⟨g,2,none⟩ (.int .i64 (b:Int))) B g k n v/\R (λj=>j=gf\/j=g) w ((w.setCell ⟨gf,1,none⟩ (.int .i64 (b:Int))).setCell ⟨g,2,none⟩ (.int .i64 (b:Int)))):=⟨⟨z,s,h.ne,h.gB,h.bB⟩,⟨⟨b,A⟩,⟨xs,r,m.o⟩,d.gB⟩,q⟩
 refine dZ ?_ h d f l t c;clear h d f l t c;intro h d f l t c;clear y q z A r s;go_enter Tryz.func134,Tryz.ntmps134;go_wp2_with fail;go_ret;exact⟨rfl,by rw[<-l.o];exact i.o.1,i.o.2.1,i.o.2.2⟩
end Go.Proofs.YtajdeapdgbnahaaGreatDoor
