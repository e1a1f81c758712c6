/-
  The plain law of a catalogue: what its seven trees hold; keys of entries; what stands between two keys.
-/
import Derived.Test.YtajdeapdgbnahaaGreatDoorCyCatD
import Derived.Test.YtajdeapdgbnahaaGreatDoorCyPutB
import Derived.Test.YtajdeapdgbnahaaGreatDoorCyGr28
namespace Go.Proofs.YtajdeapdgbnahaaGreatDoor
set_option linter.unusedVariables false
set_option maxRecDepth 100000
set_option maxHeartbeats 4000000
open List Nat
section
open Go.RowKit
theorem ow{key:aF}{b:List UInt8}{a:List KV}(d:key∉a.map (·.1)):(eP key b a).Perm ((key,b)::a):=by
 unfold eP;refine perm_middle.trans (Perm.cons _ ?_);have f:py a key=a.filter λp=>!(bY p.1 key):=by
  unfold py;refine filter_congr λp g=>?_;have c:p.1≠key:=λe=>d (aM.2 ⟨p,g,e⟩);cases h2:bY p.1 key with
  |true=>rw[cq _ _ h2];rfl
  |false=>
   cases h3:bY key p.1 with
   |true=>rfl
   |false=>exact absurd (iA _ _ h2 h3) c
 rw[f];exact filter_append_perm (λp:KV=>bY p.1 key) a
theorem BO{key:aF}{b:List UInt8}{a:List KV}(f:gF a)(h:(key,b)∈a):a.Perm ((key,b)::lD key a):=by
 have e:eP key b a=a:=qv (Be key b f) f λp=>by
  constructor
  ·intro c;rcases D7 c with rfl|c
   ·exact h
   ·exact c
  ·intro c;rcases Ea (key:=key) (b:=b) c with d|d
   ·exact d
   ·have g:(key,p.2)∈a:=by rw[<-d];exact c
    have i:=nZ f h g;have j:p=(key,b):=Prod.ext d i.symm;rw[j];exact D8 key b a
 have d:a.Perm (eP key b a):=by rw[e]
 exact d.trans perm_middle
theorem xp{d g:Type}(f:d->g):∀{l:List g} {m:List g},l.Perm m->∀{bH:List d},m=bH.map f->∃c:List d,c.Perm bH/\l=c.map f:=by
 intro l m h;induction h with
 |nil=>
  intro bH e
  have:bH=[]:=by cases bH with|nil=>rfl|cons _ _=>simp at e
  subst this
  exact⟨[],Perm.nil,rfl⟩
 |cons x h ih=>
  intro bH e
  cases bH with
  |nil=>simp at e
  |cons a bH=>
   simp only[map_cons,List.cons.injEq]at e
   obtain⟨c,i,j⟩:=ih e.2
   exact⟨a::c,i.cons a,by rw[map_cons,<-e.1,j]⟩
 |swap x y l=>
  intro bH e
  match bH,e with
  |a::b::bH,e=>
   simp only[map_cons,List.cons.injEq]at e
   exact⟨b::a::bH,Perm.swap a b bH,by rw[map_cons,map_cons,<-e.1,<-e.2.1,e.2.2]⟩
 |trans i j k n=>
  intro bH e
  obtain⟨c,p1,o⟩:=n e
  obtain⟨p,p2,q⟩:=k o
  exact⟨p,p2.trans p1,q⟩
theorem pK(t:List UInt8):∀{a:List KV},gF a->a.takeWhile (bW t)=a.filter (bW t)
 |[],_=>rfl
 |p::f,h=>by
  obtain⟨b,c⟩:=pairwise_cons.1 h
  rw[takeWhile_cons,filter_cons]
  cases hp:bW t p with
  |true=>simp only[if_true];rw[pK t c]
  |false=>
   simp only[Bool.false_eq_true,if_false]
   refine(filter_eq_nil_iff.2 λq d=>?_).symm
   have e:=b q d
   unfold bW at hp⊢
   simp only[Bool.or_eq_false_iff]at hp
   rw[hp.1,Bool.false_or]
   cases h4:bY q.1 t with
   |true=>rw[dq _ _ _ e h4]at hp;cases hp.2
   |false=>decide
theorem Ex{key:aF}{a:List KV}(h:gF a)(p:KV):p∈jb key a↔p∈a/\bY p.1 key=false:=by rw[pj key h,mem_filter];simp
theorem tD{key:aF}{a:List KV}(h:gF a):gF (jb key a):=by unfold jb;exact Pairwise.sublist (drop_sublist _ _) h
theorem zz{key a:aF}{b:List KV}(h:gF b)(p:KV):p∈(jb key b).takeWhile (bW a)↔p∈b/\bY p.1 key=false/\bW a p=true:=by rw[pK a (tD h),mem_filter,Ex h,and_assoc]
theorem xq{key a:aF}{b:List KV}(h:gF b):gF ((jb key b).takeWhile (bW a)):=Pairwise.sublist (takeWhile_sublist _) (tD h)
theorem pM(n:Nat)(h:n<=281474976710655):dm (n:Int)=(n:Int):=by unfold dm;rw[if_neg (by omega),if_neg (by omega)]
theorem uW(i j:Nat):aP [(i:Int),(j:Int)]=jw (dm i)++jw (dm j):=by simp[aP]
theorem uX(i:Nat):aP [(i:Int)]=jw (dm i):=by simp[aP]
theorem pO{i j:Nat}(a:i<=281474976710655)(b:j<=281474976710655)(h:jw (dm (i:Int))=jw (dm (j:Int))):i=j:=by rw[pM i a,pM j b]at h;have c:=congrArg val h;rw[iU _ (by omega) (by omega),iU _ (by omega) (by omega)]at c;omega
theorem uY{i j:Nat}(a:i<=281474976710655)(b:j<=281474976710655)(h:aP [(i:Int)]=aP [(j:Int)]):i=j:=by rw[uX,uX]at h;exact pO a b h
theorem uZ{i j a b:Nat}(e:i<=281474976710655)(f:j<=281474976710655)(c:a<=281474976710655)(d:b<=281474976710655)(h:aP [(i:Int),(j:Int)]=aP [(a:Int),(b:Int)]):i=a/\j=b:=by rw[uW,uW]at h;obtain⟨g,k⟩:=append_inj h (by rw[ky,ky]);exact⟨pO e c g,pO f d k⟩
def xu(key:List UInt8):List UInt8:=key.drop (key.length-12)
theorem tF(x y:List UInt8)(h:y.length=12):xu (x++y)=y:=by unfold xu;rw[aq,h,Nat.add_sub_cancel,drop_left]
theorem lE(i j:Int):(aP [i,j]).length=12:=eu _
theorem nz(i:Int):(aP [i]).length=6:=eu _
theorem qC(s:List UInt8):bK [str s]=df s:=by simp only[bK,flatMap_cons,flatMap_nil,append_nil,fW]
theorem zC(a b p q:List UInt8):bY (df a++p) (df b++q)=if a=b then bY p q else bY a b:=by have:=r9 a b p q;rw[iz,iz,iz]at this;exact this
theorem Hv{a b:List UInt8}(h:df a=df b):a=b:=by
 by_cases e:a=b
 ·exact e
 ·have c:=zC a b [] [];have d:=zC b a [] [];rw[if_neg e,append_nil,append_nil,h,bU]at c;rw[if_neg (Ne.symm e),append_nil,append_nil,h,bU]at d;exact iA _ _ c.symm d.symm
theorem ve{a b:List UInt8}(h:bK [str a]=bK [str b]):a=b:=by rw[qC,qC]at h;exact Hv h
theorem tG(a b:Nat)(c:a<=281474976710655)(d:b<=281474976710655)(l f:List UInt8):bY (jw (dm a)++l) (jw (dm b)++f)=if a=b then bY l f else decide (a<b):=by
 have h:=BP (a:Int) (b:Int) l f;rw[iz,iz,pM a c,pM b d]at h;rw[pM a c,pM b d,h];by_cases e:a=b
 ·rw[if_pos e,if_pos (by omega)]
 ·rw[if_neg e,if_neg (by omega),decide_eq_decide];omega
structure cC where
 path:List UInt8
 stamp:Nat
 long:Nat
 id:Nat
 bad:Nat
 files:List aX
structure cC.ok (a:cC):Prop where
 path:1<=a.path.length/\a.path.length<=24
 stamp:a.stamp<=281474976710655
 long:a.long<=281474976710655
 id:1<=a.id/\a.id<=281474976710655
 bad:a.bad<=255
 many:a.files.length<=1000
 files:∀f∈a.files,f.ok/\gH f.c=true
def kz(a:cC):List UInt8:=bP 6 [a.stamp,a.long,a.id,a.files.length,a.bad]
def fL(a:cC):KV:=(bK [str a.path],kz a)
def lW(a:cC):KV:=(aP [(a.id:Int)],a.path)
def cO(k id no:Nat)(f:aX):KV:=if k=1 then(aP [(id:Int),(no:Int)],dx f)else(bh (k-3) f++aP [(id:Int),(no:Int)],[])
def eV(k id:Nat):Nat->List aX->List KV
 |_,[]=>[]
 |no,f::a=>cO k id no f::eV k id (no+1) a
def rowsOf(bH:List cC)(k:Nat):List KV:=if k=0 then bH.map fL else if k=2 then bH.map lW else bH.flatMap λa=>eV k a.id 0 a.files
theorem jN(k id:Nat):∀(l:List aX) (no:Nat),(eV k id no l).length=l.length
 |[],_=>rfl
 |f::a,no=>by rw[eV,length_cons,jN k id a,length_cons]
theorem iB(k id:Nat):∀(l:List aX) (no:Nat) (p:KV),p∈eV k id no l↔∃j f,l[j]?=some f/\p=cO k id (no+j) f
 |[],no,p=>by simp[eV]
 |f::c,no,p=>by
  rw[eV,mem_cons,iB k id c (no+1) p]
  constructor
  ·rintro(rfl|⟨j,g,a,b⟩)
   ·exact⟨0,f,rfl,rfl⟩
   ·exact⟨j+1,g,by simpa using a,by rw[b];congr 1;omega⟩
  ·rintro⟨j,g,a,b⟩;cases j with
   |zero=>left;simp at a;rw[b,<-a];rfl
   |succ j=>right;exact⟨j,g,by simpa using a,by rw[b];congr 1;omega⟩
theorem oy(k id no:Nat)(f:aX):xu (cO k id no f).1=aP [(id:Int),(no:Int)]:=by
 unfold cO;split
 ·have a:=tF [] (aP [(id:Int),(no:Int)]) (lE _ _)
  rwa [nil_append]at a
 ·exact tF _ _ (lE _ _)
structure jA (bH:List cC) (bG:Nat->List KV):Prop where
 perm:∀k,k<7->(bG k).Perm (rowsOf bH k)
 ids:(bH.map (·.id)).Nodup
 paths:(bH.map (·.path)).Nodup
 ok:∀a∈bH,a.ok
theorem zD{bH a:List cC}(h:bH.Perm a)(k:Nat):(rowsOf bH k).Perm (rowsOf a k):=by
 unfold rowsOf;split
 ·exact h.map _
 ·split
  ·exact h.map _
  ·exact h.flatMap_right _
theorem jA.turn{bH c:List cC}{bG:Nat->List KV}(h:jA bH bG)(b:c.Perm bH):jA c bG:=⟨λk d=>(h.perm k d).trans (zD b.symm k),(b.map _).nodup_iff.2 h.ids,(b.map _).nodup_iff.2 h.paths,λa e=>h.ok a (b.mem_iff.1 e)⟩
theorem jA.sort{bH:List cC}{bG:Nat->List KV}(h:jA bH bG):∃a,a.Perm bH/\jA a bG/\bG 0=a.map fL:=by obtain⟨a,b,c⟩:=xp fL (h.perm 0 (by omega)) (bH:=bH) rfl;exact⟨a,b,h.turn b,c⟩
theorem Ey{bH:List cC}{a:cC}(e:a∈bH)(hid:(bH.map (·.id)).Nodup){b:cC}(f:b∈bH)(h:b.id=a.id):b=a:=by
 induction bH with
 |nil=>cases e
 |cons x j ih=>
  rw[map_cons,nodup_cons]at hid
  rcases mem_cons.1 e with g|i
  ·rcases mem_cons.1 f with c|d
   ·rw[g,c]
   ·exact absurd (aM.2 ⟨b,d,by rw[h,g]⟩) hid.1
  ·rcases mem_cons.1 f with c|d
   ·exact absurd (aM.2 ⟨a,i,by rw[<-h,c]⟩) hid.1
   ·exact ih i hid.2 d
theorem BQ(xs k:List UInt8):(bY k xs=false/\((di xs).isEmpty||bY k (di xs))=true)↔xs.isPrefixOf k=true:=by
 rw[<-iz,<-iz];have b:xs.isPrefixOf k=true->cZ k xs=false:=λh=>by obtain⟨t,rfl⟩:=isPrefixOf_iff_prefix.1 h;have g:=vf xs xs t [] rfl;rw[append_nil,if_pos rfl]at g;rw[g];cases t<;>rfl
 by_cases e:gq xs=true
 ·have c:=y8 xs k e;rw[yZ xs e];simp only[isEmpty_nil,Bool.true_or,and_true];constructor
  ·intro h;rw[h,Bool.or_false]at c;exact c
  ·exact b
 ·have d:gq xs=false:=by simpa using e
  have c:=y9 xs k d;have i:(di xs).isEmpty=false:=by
   cases f:di xs with
   |nil=>
    have a:=Bn xs [] d
    rw[f]at a
    cases hz:xs++[]<;>rw[hz]at a<;>simp[cZ]at a
   |cons _ _=>rfl
  rw[i,c,Bool.false_or];constructor
  ·rintro⟨f,a⟩;rw[f,Bool.or_false]at a;exact a
  ·intro h;exact⟨b h,by rw[h];rfl⟩
theorem tH{id a b:Nat}(d:id<=281474976710655)(c:a<=281474976710655):(aP [(id:Int)]).isPrefixOf (aP [(a:Int),(b:Int)])=true↔a=id:=by
 rw[uX,uW,isPrefixOf_iff_prefix];constructor
 ·rintro⟨t,e⟩;exact(pO d c (append_inj e (by rw[ky,ky])).1).symm
 ·rintro rfl;exact prefix_append _ _
theorem tI(id:Nat)(hid:id<=281474976710655):∀(l:List aX) (no:Nat),no+l.length<=281474976710655->gF (eV 1 id no l)
 |[],_,_=>Pairwise.nil
 |f::c,no,d=>by
  rw[length_cons]at d
  rw[eV]
  refine pairwise_cons.2 ⟨λp e=>?_,tI id hid c (no+1) (by omega)⟩
  obtain⟨j,g,i,rfl⟩:=(iB 1 id c (no+1) p).1 e
  have k:=(ay.1 i).1
  have a:∀(n:Nat) (g:aX),(cO 1 id n g).1=jw (dm id)++jw (dm n):=λn g=>by unfold cO;rw[if_pos rfl];exact uW id n
  rw[a,a,tG id id hid hid,if_pos rfl]
  have b:=tG no (no+1+j) (by omega) (by omega) [] []
  rw[append_nil,append_nil,if_neg (by omega)]at b
  rw[b,decide_eq_true_iff];omega
theorem zE{bH:List cC}{bG:Nat->List KV}(h:jA bH bG)(l:gF (bG 1)){a:cC}(i:a∈bH):(jb (aP [(a.id:Int)]) (bG 1)).takeWhile (bW (di (aP [(a.id:Int)])))=eV 1 a.id 0 a.files:=by
 have c:=h.ok a i;refine qv (xq l) (tI a.id c.id.2 _ 0 (by have:=c.many;omega)) λp=>?_;rw[zz l];have g:bW (di (aP [(a.id:Int)])) p=((di (aP [(a.id:Int)])).isEmpty||bY p.1 (di (aP [(a.id:Int)]))):=rfl;rw[g,BQ];clear g;have n:p∈bG 1↔p∈bH.flatMap λa=>eV 1 a.id 0 a.files:=(h.perm 1 (by omega)).mem_iff;rw[n,mem_flatMap];constructor
 ·rintro⟨⟨b,m,d⟩,e⟩;obtain⟨j,f,o,rfl⟩:=(iB 1 b.id b.files 0 p).1 d;have k:(cO 1 b.id (0+j) f).1=aP [(b.id:Int),((0+j:Nat):Int)]:=by unfold cO;rw[if_pos rfl]
  rw[k]at e;have q:=(tH c.id.2 (h.ok b m).id.2).1 e;obtain rfl:=Ey i h.ids m q;exact d
 ·intro d;refine⟨⟨a,i,d⟩,?_⟩;obtain⟨j,f,o,rfl⟩:=(iB 1 a.id a.files 0 p).1 d;have k:(cO 1 a.id (0+j) f).1=aP [(a.id:Int),((0+j:Nat):Int)]:=by unfold cO;rw[if_pos rfl]
  rw[k];exact(tH c.id.2 c.id.2).2 rfl
def iV(l:List KV):Nat:=match l.getLast? with
 |none=>0
 |some p=>val (p.1.take 6)
theorem Ez(a:cC)(h:a.id<=281474976710655):val ((lW a).1.take 6)=a.id:=by unfold lW;rw[uX,pM _ h];show val (jw _)=_;rw[iU _ (by omega) (by omega)];omega
theorem BR{bH:List cC}{bG:Nat->List KV}(h:jA bH bG)(r:gF (bG 2)):(∀a∈bH,a.id<=iV (bG 2))/\(bH=[]->iV (bG 2)=0)/\(bH≠[]->∃a∈bH,a.id=iV (bG 2)):=by
 have n:(bG 2).Perm (bH.map lW):=h.perm 2 (by omega);rcases eq_nil_or_concat (bG 2)with s|⟨l,p,b⟩
 ·have b:bH=[]:=by have:=n.length_eq;rw[s,length_map]at this;exact bT this.symm
  subst b;exact⟨(λa i=>by cases i),(λ_=>by rw[s];rfl),λh=>absurd rfl h⟩
 ·rw[concat_eq_append]at b;have j:iV (bG 2)=val (p.1.take 6):=by unfold iV;rw[b,getLast?_append];rfl
  obtain⟨a0,c,o⟩:=aM.1 (n.mem_iff.1 (by rw[b];exact mem_append.2 (.inr (.head _)):p∈bG 2));have f:=(h.ok a0 c).id.2;have k:iV (bG 2)=a0.id:=by rw[j,<-o,Ez a0 f]
  refine⟨?_,(λe=>by rw[e]at c;cases c),λ_=>⟨a0,c,k.symm⟩⟩;intro a i;have t:=(h.ok a i).id.2;have m:lW a∈bG 2:=n.mem_iff.2 (aM.2 ⟨a,i,rfl⟩);rw[b]at m;rw[k];rcases mem_append.1 m with q|q
  ·rw[b]at r;have g:=(pairwise_append.1 r).2.2 _ q p (.head _);rw[<-o]at g;have d:=tG a.id a0.id t f [] [];rw[append_nil,append_nil,<-uX,<-uX]at d;have u:bY (aP [(a.id:Int)]) (aP [(a0.id:Int)])=true:=g;rw[u]at d;by_cases e:a.id=a0.id
   ·omega
   ·rw[if_neg e]at d;have:=of_decide_eq_true d.symm;omega
  ·have g:lW a=p:=by simpa using q
   rw[<-o]at g;have d:aP [(a.id:Int)]=aP [(a0.id:Int)]:=congrArg Prod.fst g;exact Nat.le_of_eq (uY t f d)
def eS(bH:List cC):Nat:=(bH.map λa=>a.files.length).sum
theorem vg(bH:List cC)(k:Nat)(b:k≠0)(c:k≠2):(rowsOf bH k).length=eS bH:=by unfold rowsOf eS;rw[if_neg b,if_neg c,length_flatMap];congr 1;exact map_congr_left λa _=>jN k a.id a.files 0
theorem row_in{bH:List cC}{bG:Nat->List KV}(h:jA bH bG){a:cC}(b:a∈bH){j:Nat}{f:aX}(c:a.files[j]?=some f)(k:Nat)(d:k<7)(e:k≠0)(g:k≠2):cO k a.id j f∈bG k:=by refine(h.perm k d).mem_iff.2 ?_;unfold rowsOf;rw[if_neg e,if_neg g,mem_flatMap];exact⟨a,b,(iB k a.id a.files 0 _).2 ⟨j,f,c,by rw[Nat.zero_add]⟩⟩
end
section
open Go.RowKit Go.Maps
def C4(st:aB)(k:Nat)(key:List UInt8):Prop:=
 ∀(w:World) (F:Nat->Prop) (gt a:Nat) (b:Option Addr) (d:Nat),ar w F a st->aL w F gt a k->MB F w b key.length key->
  Calls Tryz.prog 35 #[.pointer (some ⟨gt,0,none⟩),.slice b key.length d] w λe w'=>e=.returned (.tuple #[.slice none 0 0,.bool false,.int .i64 0])/\∃c,ar w' c a st/\Ev F w c w'
def Ky(F:Nat->Prop)(w:World)(b:Nat)(st:aB)(e:Ending)(w':World):Prop:=e=.returned (.tuple #[.slice none 0 0,.bool false,.int .i64 0])/\∃a,ar w' a b st/\Ev F w a w'
theorem vk(st:aB)(k:Nat)(n:k<8)(key:List UInt8)(p:st.roots k=0):C4 st k key:=by
 intro w F gt b x y h c d;show Calls Tryz.prog 35 _ w (Ky F w b st);obtain⟨L,g⟩:=I (key.length);rw[<-g];have q:w.cell? ⟨gt,0,none⟩=some (.pointer (some ⟨b,0,none⟩)):=c.blk.cell 0;have r:w.cell? ⟨gt,1,none⟩=some (.int .i64 (k:Int)):=c.blk.cell 1;obtain⟨s,f⟩:=I (st.roots k);have i:=J (by rw[f];exact iP w.drew F b st h.drew k n:Calls Tryz.prog 55 #[.pointer (some ⟨b,0,none⟩),.int .i64 (k:Int)] w.drew λe w'=>e=.returned (.int .i64 (s:Int))/\w.drew=w');have a:Hid (Ky F w b st (.returned (.tuple #[.slice none 0 0,.bool false,.int .i64 0])) w.drew):=J ⟨rfl,F,h.drew,(Ev.refl F w).drew⟩;have j:=J (f.trans p:s=0);refine bX ?_ h c d g f;clear h c d g f;intro h c d g f;clear p;go_enter Tryz.func35,Tryz.ntmps35;go_wp2_with fail;go_region_held3 (λw'=>w'.cell? ⟨gt,0,none⟩=some (.pointer (some ⟨b,0,none⟩))/\w'.cell? ⟨gt,1,none⟩=some (.int .i64 (k:Int))) (first|exact⟨q,r⟩) (first|(go_at_call 55;refine i.o.mono ?_;rintro e z ⟨rfl,rfl⟩))
 obtain⟨W,m⟩:=I (w.drew);rw[<-m]at a⊢;replace m:=J m;have l:(s:Int)=0:=by rw[j.o];rfl
 rw[l];clear q r i l j;go_wp2_with fail;go_loopw [7] (λv u=>v=.int .i64 0/\u=W) (λ_ _=>0)
 case atStart=>exact⟨rfl,rfl⟩
 case round=>
  obtain⟨rfl,t⟩:=hrel;subst t;go_wp2_with fail
  go_ret3
  exact a.o
def Hw(F:Nat->Prop)(w:World)(b:Nat)(st:aB)(e:Ending)(w':World):Prop:=e=.returned (.tuple #[.agg #[.string ⟨#[]⟩,.int .i64 0,.int .i64 0,.int .i64 0,.int .i64 0,.int .i64 0],.bool false,.int .i64 0])/\∃a,ar w' a b st/\Ev F w a w'
theorem Hy(w:World)(F:Nat->Prop)(gc C:Nat)(E:Nat->Nat)(st:aB)(h:ar w F C st)(O:fD w F gc C E)(y:iF w)(b:List UInt8)(ba:b.length<=1000)(Q:C4 st 0 (bK [str b])):Calls Tryz.prog 14 #[.pointer (some ⟨gc,0,none⟩),.string (str b)] w (Hw F w C st):=by
 obtain⟨c,g⟩:=I (w.alloc (.cells zA 54));have i:Below w.heap.size w c:=by rw[g];exact(Below.refl _ w).alloc (aa _) _
 have s:Ev F w F c:=Ev.ag i;have G:ah c w.heap.size 54 zA:=by rw[g];exact ah.new w 54 _
 have u:ar c F C st:=h.below i;have l:=O.ev s;have ao:c.cell? ⟨gc,1,none⟩=some (.pointer (some ⟨E 0,0,none⟩)):=l.blk.cell 1;obtain⟨ap,m,ae⟩:=(y.below i).below ((Below.refl c.heap.size c).alloc (aa _) (.cells #[.string (str b)] 9));have H:Hid (∃K,K=bK [str b]/\Calls Tryz.prog 23 #[.slice none 0 0,.slice (some ⟨c.heap.size,0,none⟩) 1 1] (c.alloc (.cells #[.string (str b)] 9)).drew (dH (c.alloc (.cells #[.string (str b)] 9)).drew K)):=J (by have q:=ny none _ 0 1 0 1 [] [str b] m (c.alloc (.cells #[.string (str b)] 9)).drew (RB.nil _ _) (RS.KP c (str b) 9) (by omega) (by omega) (by intro t H;simp at H;rw[H,dV];omega) ap ae;rw[nil_append]at q;exact⟨_,rfl,q⟩)
 obtain⟨K,z,af⟩:=H.o;rw[<-z]at Q;have U:=J u.lt;have x:¬F w.heap.size:=λa0=>by have:=h.lt _ a0;omega
 have S:Hid (∀w' al,Ev F c al w'->w'.cell? ⟨gc,1,none⟩=some (.pointer (some ⟨E 0,0,none⟩))):=J λW al a1=>(l.ev a1).blk.cell 1;have V:Hid (c=w.alloc (.cells #[.string ⟨#[]⟩,.int .i64 0,.int .i64 0,.int .i64 0,.int .i64 0,.int .i64 0] 54)):=J g;refine gI ?_ h O y g i s G u l z x;clear h O y g i s G u l z x;intro h O y g i s G u l z x;clear ae H;go_enter Tryz.func14,Tryz.ntmps14;go_upto_region 3 with(fail)
 rw[<-V.o];go_region_held3 (λw'=>w'.cell? ⟨gc,1,none⟩=some (.pointer (some ⟨E 0,0,none⟩))) (first|exact ao|exact S.o _ F (Ev.ag n.o)|exact S.o _ _ r.o|go_keep) (first
  |(go_at_call 23;refine af.mono ?_;rintro e X ⟨bb,rfl,A,L⟩;obtain⟨am,a2,rfl,_,_,_,_⟩:=A.form;have n:Hid (Below c.heap.size c X):=J (Below.trans (by with_reducible first|exact((Below.refl _ c).alloc (aa _) _).drew) (L.mono (by simp)));have Y:=J (MB.made A (λk a3=>by have:=U.o k a3;simp;omega):MB F X am K.length K);replace A:=J A;replace L:=J L)
  |(go_at_call 35;refine(Q X F (E 0) C am a2 (u.o.below n.o) ((l.o.tree 0 (by omega)).ev (Ev.ag n.o)) Y.o).mono ?_;rintro e d ⟨rfl,Z,B,M⟩;have r:=J ((Ev.ag n.o).trans M:Ev F c Z d);replace B:=J B;replace M:=J M))
 all_goals
  have a:=r.o.blk G.o x.o;have bc:d.cell? ⟨w.heap.size,0,none⟩=some (.string ⟨#[]⟩):=a.cell 0;have bd:d.cell? ⟨w.heap.size,1,none⟩=some (.int .i64 0):=a.cell 1;have be:d.cell? ⟨w.heap.size,2,none⟩=some (.int .i64 0):=a.cell 2;have y3:d.cell? ⟨w.heap.size,3,none⟩=some (.int .i64 0):=a.cell 3;have y4:d.cell? ⟨w.heap.size,4,none⟩=some (.int .i64 0):=a.cell 4;have bi:d.cell? ⟨w.heap.size,5,none⟩=some (.int .i64 0):=a.cell 5;have bj:=a.frozen 0;have bl:=a.frozen 1;have bm:=a.frozen 2;have bp:=a.frozen 3;have br:=a.frozen 4;have f5:=a.frozen 5;have ab:=J a;clear a;have ac:Hid (∀W,R (λj=>j=w.heap.size) d W->Hw F w C st (.returned (.tuple #[.agg #[.string ⟨#[]⟩,.int .i64 0,.int .i64 0,.int .i64 0,.int .i64 0,.int .i64 0],.bool false,.int .i64 0])) W):=J λW N=>by have ad:¬Z w.heap.size:=r.o.new x.o G.o.lt;refine⟨rfl,Z,B.o.keep (λj P=>N.block j (B.o.lt j P) (λe=>ad (by rw[<-e];exact P))) N.size,?_⟩;have T:=s.o.trans r.o;exact⟨T.only.trans N (λj P e=>absurd P (by omega)),T.grow⟩
  go_wp2_with fail;have N:R (λj=>j=w.heap.size) d ((((((d.setCell ⟨w.heap.size,0,none⟩ (.string ⟨#[]⟩)).setCell ⟨w.heap.size,1,none⟩ (.int .i64 0)).setCell ⟨w.heap.size,2,none⟩ (.int .i64 0)).setCell ⟨w.heap.size,3,none⟩ (.int .i64 0)).setCell ⟨w.heap.size,4,none⟩ (.int .i64 0)).setCell ⟨w.heap.size,5,none⟩ (.int .i64 0)):=((((((R.refl (λj=>j=w.heap.size) d).setCell (p:=⟨w.heap.size,0,none⟩) (λ_=>rfl) _).setCell (p:=⟨w.heap.size,1,none⟩) (λ_=>rfl) _).setCell (p:=⟨w.heap.size,2,none⟩) (λ_=>rfl) _).setCell (p:=⟨w.heap.size,3,none⟩) (λ_=>rfl) _).setCell (p:=⟨w.heap.size,4,none⟩) (λ_=>rfl) _).setCell (p:=⟨w.heap.size,5,none⟩) (λ_=>rfl) _
  have f:=(((((ab.o.aK 0 (.string ⟨#[]⟩)).aK 1 (.int .i64 0)).aK 2 (.int .i64 0)).aK 3 (.int .i64 0)).aK 4 (.int .i64 0)).aK 5 (.int .i64 0);refine bodyPost_ret (v:=.tuple #[.agg #[.string ⟨#[]⟩,.int .i64 0,.int .i64 0,.int .i64 0,.int .i64 0,.int .i64 0],.bool false,.int .i64 0]) ?_ rfl (ac.o _ N);obtain⟨D,an⟩:=I (((((((d.setCell ⟨w.heap.size,0,none⟩ (.string ⟨#[]⟩)).setCell ⟨w.heap.size,1,none⟩ (.int .i64 0)).setCell ⟨w.heap.size,2,none⟩ (.int .i64 0)).setCell ⟨w.heap.size,3,none⟩ (.int .i64 0)).setCell ⟨w.heap.size,4,none⟩ (.int .i64 0)).setCell ⟨w.heap.size,5,none⟩ (.int .i64 0)));rw[<-an]at f⊢;have a4:D.cell? ⟨w.heap.size,0,none⟩=some (.string ⟨#[]⟩):=f.cell 0;have a5:D.cell? ⟨w.heap.size,1,none⟩=some (.int .i64 0):=f.cell 1;have a6:D.cell? ⟨w.heap.size,2,none⟩=some (.int .i64 0):=f.cell 2;have a7:D.cell? ⟨w.heap.size,3,none⟩=some (.int .i64 0):=f.cell 3;have a8:D.cell? ⟨w.heap.size,4,none⟩=some (.int .i64 0):=f.cell 4;have a9:D.cell? ⟨w.heap.size,5,none⟩=some (.int .i64 0):=f.cell 5;simp[results,Tryz.results14,go_sem,a4,a5,a6,a7,a8,a9]
def zG(F:Nat->Prop)(w:World)(b:Nat)(st:aB)(id:Nat)(e:Ending)(w':World):Prop:=e=.returned (.tuple #[.int .i64 (id:Int),.int .i64 0])/\∃a,ar w' a b st/\Ev F w a w'
theorem zH:∀args a,(callFunc 53 args).run Tryz.prog a=.ok (.enter 53 args) a:=λargs a=>by have h:=Tryz.func53;simp[callFunc,Sem.run_bind,go_sem,h,Tryz.f53]
def Mc(g:Nat)(t:TypeId)(v:Value)(d:List (List UInt8×List UInt8))(D:Nat->Prop)(w:World):Prop:=d=[]/\ah w g t #[v]/\(D g/\∀k,D k->k=g)
theorem Hz(f:FuncId)(a:Array Value)(c:∀args e,(callFunc f args).run Tryz.prog e=.ok (.enter f args) e)(g:Nat)(t:TypeId)(v:Value)(i:t≠194)(j:t≠259):sJ f a (λ_=>False) (Mc g t v) where
 fn:=c
 good d D w hJ k hk:=by have:=hJ.2.2.2 k hk;subst this;exact⟨t,_,hJ.2.1,i,j⟩
 keep d D w w' hJ hk hs:=⟨hJ.1,Eq.trans (hk g hJ.2.2.1) hJ.2.1,hJ.2.2⟩
 step d D w key b kA vA kc vc _ hok:=hok.elim
theorem nB(w:World)(t:TypeId)(a:Array Value)(g:Nat)(b:World)(c:g=w.heap.size)(d:b=w.alloc (.cells a t)):ah b g t a:=by rw[d,c];exact ah.new w t a
theorem rR{F b i:Nat->Prop}{w c w':World}{g:Nat}(l:g=w.heap.size)(d:Ev F w F c)(h:Ev (FC F (λj=>j=g)) c (FC b i) w'):Ev F w b w':=
 ⟨d.only.trans h.only (λj f a=>a.elim id (λe=>by have k:j=g:=e;omega)),λj f=>by
  rcases h.grow j (.inl f)with a|a
  ·rcases a with a|a
   ·exact .inl a
   ·have k:j=g:=a;exact .inr (by omega)
  ·have:=d.size;exact .inr (by omega)⟩
theorem BS(w:World)(F:Nat->Prop)(gc d:Nat)(n:Nat->Nat)(st:aB)(h:ar w F d st)(r:fD w F gc d n)(A:st.roots 2=0):Calls Tryz.prog 21 #[.pointer (some ⟨gc,0,none⟩)] w (zG F w d st 1):=by
 obtain⟨g,p⟩:=I (w.heap.size);obtain⟨f,a⟩:=I (w.alloc (.cells #[.int .i64 0] 3));have i:ah f g 3 #[.int .i64 0]:=nB w _ _ g f p a;have c:Ev F w F f:=by rw[a];exact(Ev.refl F w).az _
 have k:ar f F d st:=by rw[a];exact h.alloc _
 have b:=r.ev c;have l:¬F g:=λs=>by have:=h.lt _ s;omega
 have m:aL f (FC F (λj=>j=g)) (n 2) d 2:=⟨(b.tree 2 (by omega)).blk,λs=>s.elim (b.tree 2 (by omega)).o (λe=>by have L:n 2=g:=e;have:=ah.lt (r.tree 2 (by omega)).blk;omega)⟩
 have y:=J (mH 53 #[.pointer (some ⟨g,0,none⟩)] (Mc g 3 (.int .i64 0)) (λ_=>False) (Hz 53 _ zH g 3 _ (by decide) (by decide)) f F (λj=>j=g) (n 2) d 2 st k m (by omega) [] [] none none 0 0 (MB.nil _) (by simp) (MB.nil _) ⟨rfl,i,rfl,λ_ C=>C⟩ (λj D s=>l (by rw[<-D];exact s)) [] [] (.inr (.inl ⟨by rw[A];rfl,rfl,rfl⟩)) .nil (λq E=>by cases E) (by simp));have G:f.cell? ⟨gc,3,none⟩=some (.pointer (some ⟨n 2,0,none⟩)):=b.blk.cell 3;have K:(w.alloc (.cells #[.int .i64 0] 3)).cell? ⟨gc,3,none⟩=some (.pointer (some ⟨n 2,0,none⟩)):=by rw[<-a];exact G
 refine dr ?_ h r i c k b l m p a;clear h r i c k b l m p a;intro h r i c k b l m p a;clear A;go_enter Tryz.func21,Tryz.ntmps21;go_upto_region 2 with(fail)
 rw[<-a.o,<-p.o];go_wp2_with fail;go_at_call 29;refine y.o.mono ?_;rintro e B ⟨rfl,H,M,N,t,u,z,v⟩;have z0:B.cell? ⟨g,0,none⟩=some (.int .i64 0):=u.2.1.cell 0;have x:Hid (zG F w d st 1 (.returned (.tuple #[.int .i64 1,.int .i64 0])) B):=J ⟨rfl,H,t,rR p.o c.o v⟩;replace t:=J t;replace u:Hid _:=J u;replace z:=J z;replace v:=J v;clear y;go_wp2_with fail
 go_ret2
 exact x.o
theorem EA:(Tryz.prog.info? 44).map (λi=>(i.zero,i.size,i.bytes))=some (some (.agg #[.int .i64 0,.int .i64 0]),2,16):=by kernel_rfl
theorem xw(w:World)(base:Nat)(v:Value)(m:Nat)(xs:List Value)(f:w.ownsRow base 44 2 v m xs)(g:Nat)(a b:Value)(q:∀u∈[a,b],u.oneCell'=true)(i:ah w g 44 #[a,b]) (ty:TypeId) (r:m+1<=1000000) (c:base<=w.heap.size):∃d w',(Builtin.append_ #[38,38] ty #[v,.slice (some ⟨g,0,none⟩) 1 1]).run Tryz.prog w=.ok d w'/\w'.ownsRow base 44 2 d (m+1) (xs++[a,b])/\w.grownBy w' v.ownBlock/\(d.ownBlock=v.ownBlock\/d.ownBlock=some w.heap.size):=by
 obtain⟨i0,k,l,n,o⟩:=info_parts EA;exact bN (P:=Tryz.prog) w base 38 ty 44 i0 _ 2 16 Tryz.underlying38 k l n o rfl (by omega) v m xs f w.heap.size (some ⟨g,0,none⟩) 1 1 [a,b] ⟨rfl,λ_=>⟨_,rfl,i.lt,λj u s=>by
  have e:(Addr.mk g 0 none).add j=⟨g,j,none⟩:=by
   unfold Addr.add;by_cases p:j=0
   ·subst p;rfl
   ·rw[if_neg p];simp
  rw[e,i.cell];simpa using s⟩⟩ q (by simp only[maxLen];omega) (by omega) c
def Ll(key:List UInt8):List UInt8:=(key.drop (key.length-12)).take 6
def JT(key:List UInt8):List UInt8:=key.drop (key.length-12+6)
def vm(key:List UInt8):List Value:=[.int .i64 (val (Ll key):Int),.int .i64 (val (JT key):Int)]
def C6(w:World)(g:Nat)(v:Value)(m:Nat)(xs:List Value)(key:List UInt8)(e:Ending)(w':World):Prop:=e=.returned (.int .i64 0)/\∃a,ah w' g 38 #[a]/\w'.ownsRow 0 44 2 a (m+1) (xs++vm key)/\R (λk=>k=g\/v.ownBlock=some k) w w'/\(a.ownBlock=v.ownBlock\/∃j,a.ownBlock=some j/\w.heap.size<=j)
theorem BU(w:World)(g:Nat)(v:Value)(m:Nat)(xs:List Value)(q:ah w g 38 #[v]) (b:w.ownsRow 0 44 2 v m xs) (Z:m<=900000) (K ab:Option Addr) (n C ac ad:Nat) (key:List UInt8) (f:RB w w.heap.size K n key) (ae:n<=100000) (U:12<=n) (D:n<=C) (r:C<=maxLen):Calls Tryz.prog 30 #[.slice K n C,.slice ab ac ad,.pointer (some ⟨g,0,none⟩)] w (C6 w g v m xs key):=by
 obtain⟨P,Q⟩:∃P,n=P+12:=⟨n-12,by omega⟩;have E:key.length=n:=f.len;have L:key.drop P=Ll key++JT key:=by unfold Ll JT;rw[show key.length-12=P by omega];rw[<-drop_drop];exact(bE 6 _).symm
 have M:key.drop (P+6)=JT key++[]:=by unfold JT;rw[show key.length-12=P by omega,append_nil]
 have N:(Ll key).length=6:=by unfold Ll;rw[aH,aQ];omega
 have O:(JT key).length=6:=by unfold JT;rw[aQ];omega
 have F:=J (lX K n C P key _ _ w f (by omega) D r (by omega) L N);have G:=J (lX K n C (P+6) key _ _ w f (by omega) D r (by omega) M O);obtain⟨A,i⟩:=I (val (Ll key));obtain⟨B,j⟩:=I (val (JT key));rw[<-i]at F;rw[<-j]at G;have t:=ah.new w 44 #[.int .i64 (A:Int),.int .i64 (B:Int)];have c:((w.alloc (.cells #[.int .i64 (A:Int),.int .i64 (B:Int)] 44))).ownsRow 0 44 2 v m xs:=((R.refl (λ_=>False) w).alloc _).row b (λ_ _ h=>h);obtain⟨v5,s,S,a,l,x⟩:=xw _ 0 _ m xs c w.heap.size (.int .i64 (A:Int)) (.int .i64 (B:Int)) (by intro u V;simp at V;rcases V with rfl|rfl<;>rfl) (show ah (w.alloc _) w.heap.size 44 _ from t) 38 (by omega) (zero_le _);have y:some g≠v.ownBlock:=λe=>au b q (by decide) e.symm;have d:ah s g 38 #[v]:=((show ah (w.alloc (.cells #[.int .i64 (A:Int),.int .i64 (B:Int)] 44)) g 38 _ from q.alloc _)).grown l y;have T:IntKind.i64.wrap ((n:Int)-12)=(P:Int):=by rw[wrap_small _ (by omega) (by omega)];omega
 have H:=(R.refl (λ_=>False) w).alloc (.cells #[.int .i64 (A:Int),.int .i64 (B:Int)] 44);have z:Hid (C6 w g v m xs key (.returned (.int .i64 0)) (s.setCell ⟨g,0,none⟩ v5)):=J (by
  have W:R (λk=>k=g\/v.ownBlock=some k) w s:=(((R.refl _ w).alloc _).grown l (λk f _=>.inr f));have X:R (λk=>k=g\/v.ownBlock=some k) w (s.setCell ⟨g,0,none⟩ v5):=W.setCell (p:=⟨g,0,none⟩) (λ_=>.inl rfl) v5;have Y:R (λk=>k=g) s (s.setCell ⟨g,0,none⟩ v5):=(R.refl (λk=>k=g) s).setCell (p:=⟨g,0,none⟩) (λ_=>rfl) v5;refine⟨rfl,v5,d.aK 0 v5,?_,X,?_⟩
  ·unfold vm;rw[<-i,<-j];exact Y.row a (aI a d (by decide))
  ·rcases x with e|e
   ·exact .inl e
   ·exact .inr ⟨_,e,by simp<;>omega⟩)
 obtain⟨al,c5,rfl⟩:=aE a;obtain⟨am,an,rfl⟩:=aE b;have z0:=q.cell 0;have ao:=(q.alloc (.cells #[.int .i64 (A:Int),.int .i64 (B:Int)] 44)).cell 0;have ap:=d.cell 0;have z3:=d.frozen 0;refine aR ?_ q b f E L M N O i j t c a;clear q b f E L M N O i j t c a;intro q b f E L M N O i j t c a;refine dZ ?_ l x y d H Q;clear l x y d H Q;intro l x y d H Q;clear D r ae U Z;go_enter Tryz.func30,Tryz.ntmps30;go_wp2_with fail;go_at_call 31;refine F.o.mono ?_;rintro e af ⟨rfl,rfl⟩;go_wp2_with fail;go_at_call 31;refine G.o.mono ?_;rintro e af ⟨rfl,rfl⟩;clear F G T;go_wp2_with(at_builtin;refine Lib.wpList_append_run _ rfl (.tmp 28) (.tmp 32) 38 38 rfl _ _ rfl rfl _ _ S ?_);first|exact z.o|(go_ret;exact z.o)
theorem EB:∀args a,(callFunc 30 args).run Tryz.prog a=.ok (.enter 30 args) a:=λargs a=>by have h:=Tryz.func30;simp[callFunc,Sem.run_bind,go_sem,h,Tryz.f30]
def HM(g:Nat)(d:List (List UInt8×List UInt8))(D:Nat->Prop)(w:World):Prop:=∃v,ah w g 38 #[v]/\w.ownsRow 0 44 2 v d.length (d.flatMap λq=>vm q.1)/\D g/\(∀k,D k->k=g\/v.ownBlock=some k)/\∀k,v.ownBlock=some k->D k
theorem lF{w:World}{base:Nat}{e:TypeId}{size n:Nat}{v:Value}{xs:List Value}(h:w.ownsRow base e size v n xs)(k:Nat)(a:v.ownBlock=some k):∃b,ah w k e b:=by
 rcases h.2 with⟨rfl,_⟩|⟨c,cap,f,rfl,_,d,_⟩
 ·simp[Value.ownBlock]at a
 ·have:c=k:=by simpa[Value.ownBlock]using a
  subst this;exact⟨_,d⟩
theorem EC(g:Nat):sJ 30 #[.pointer (some ⟨g,0,none⟩)] (λq=>12<=q.1.length) (HM g) where
 fn:=EB
 good d D w hJ k a:=by
  obtain⟨v,f,c,_,m,_⟩:=hJ;rcases m k a with rfl|e
  ·exact⟨_,_,f,by decide,by decide⟩
  ·obtain⟨r,q⟩:=lF c k e;exact⟨_,_,q,by decide,by decide⟩
 keep d D w w' hJ a hs:=by
  obtain⟨v,f,c,i,m,l⟩:=hJ;refine⟨v,Eq.trans (a g i) f,⟨c.1,?_⟩,i,m,l⟩;rcases c.2 with s|⟨n,cap,o,rfl,t,u,C⟩
  ·exact .inl s
  ·exact .inr ⟨n,cap,o,rfl,t,Eq.trans (a n (l n rfl)) u,C⟩
 step d D w key b kA vA kc vc hd hok hJ a hv lk lv mk hl:=by
  obtain⟨v,f,c,i,m,l⟩:=hJ;have x:∀k,v.ownBlock=some k->k<w.heap.size:=λk a=>by obtain⟨r,q⟩:=lF c k a;exact q.lt
  refine(BU w g v d.length _ f c hd kA vA key.length kc b.length vc key a hl hok lk mk).mono ?_;rintro e w' ⟨rfl,p,y,z,A,B⟩;refine⟨rfl,λk=>k=g\/p.ownBlock=some k,⟨p,y,?_,.inl rfl,λk a=>a,λk a=>.inr a⟩,⟨A.mono λk _ a=>?_,λk a=>?_⟩⟩
  ·rw[aq,flatMap_append];simpa using z
  ·rcases a with rfl|a
   ·exact i
   ·exact l k a
  ·rcases a with rfl|a
   ·exact .inl i
   ·rcases B with e|⟨j,e,E⟩
    ·exact .inl (l k (by rw[<-e];exact a))
    ·rw[e]at a;injection a with a;exact .inr (by omega)
def tJ(F:Nat->Prop)(w:World)(b:Nat)(st:aB)(l:List (List UInt8×List UInt8))(e:Ending)(w':World):Prop:=∃A c,e=.returned (.tuple #[.slice A l.length c,.int .i64 0])/\∃a,ar w' a b st/\Ev F w a w'/\w'.ownsRow 0 44 2 (.slice A l.length c) l.length (l.flatMap λq=>vm q.1)/\∀k,(Value.slice A l.length c).ownBlock=some k->¬a k
theorem tK(w:World)(F:Nat->Prop)(gc n:Nat)(N:Nat->Nat)(st:aB)(h:ar w F n st)(O:fD w F gc n N)(o:Nat)(bb:o<=3)(from_ a:List UInt8)(ac ad:Option Addr)(fl am ae an:Nat)(p:from_.length=fl)(r:a.length=ae)(ab:MB F w ac fl from_)(ao:fl<=100000)(y:MB F w ad ae a)(L:List ai) (f:List (List UInt8×List UInt8)) (af:sH st from_ [] (st.roots (3+o):Int) L) (al:mh st L f) (P:∀q,q∈f->12<=q.1.length) (z:f.length<=900000):Calls Tryz.prog 10 #[.pointer (some ⟨gc,0,none⟩),.int .i64 (o:Int),.slice ac fl am,.slice ad ae an] w (tJ F w n st (f.takeWhile (bW a))):=by
 obtain⟨g,M⟩:=I (w.heap.size);obtain⟨l,b⟩:=I (w.alloc (.cells #[.slice none 0 0] 38));have B:ah l g 38 #[.slice none 0 0]:=nB w _ _ g l M b;have d:Ev F w F l:=by rw[b];exact(Ev.refl F w).az _
 have C:ar l F n st:=by rw[b];exact h.alloc _
 have i:=O.ev d;have D:¬F g:=λQ=>by have:=h.lt _ Q;omega
 have E:Ev F w (FC F (λj=>j=g)) l:=⟨d.only,λj u=>by
  rcases u with u|u
  ·exact .inl u
  ·have a0:j=g:=u;exact .inr (by omega)⟩
 have G:aL l (FC F (λj=>j=g)) (N (3+o)) n (3+o):=⟨(i.tree (3+o) (by omega)).blk,λQ=>Q.elim (i.tree (3+o) (by omega)).o (λe=>by have a0:N (3+o)=g:=e;have:=ah.lt (O.tree (3+o) (by omega)).blk;omega)⟩
 have H:=J (mH 30 #[.pointer (some ⟨g,0,none⟩)] (HM g) (λq=>12<=q.1.length) (EC g) l F (λj=>j=g) (N (3+o)) n (3+o) st C G (by omega) from_ a ac ad am an (by rw[p];exact ab.ev d) (by omega) (by rw[r];exact y.ev E) ⟨_,B,⟨rfl,.inl ⟨rfl,rfl⟩⟩,rfl,λk S=>.inl S,λk S=>by simp[Value.ownBlock]at S⟩ (λj u Q=>D (by rw[<-u];exact Q)) L f af al P z);rw[p,r]at H;obtain⟨gt,s⟩:=I (N (3+o));rw[<-s]at H;have a1:l.cell? ⟨gc,1+(3+o),none⟩=some (.pointer (some ⟨gt,0,none⟩)):=by rw[i.blk.cell,s];rcases(by omega:o=0\/o=1\/o=2\/o=3)with rfl|rfl|rfl|rfl<;>rfl
 have T:Hid (∀x U V t,ar t x n st->HM g (f.takeWhile (bW a)) V t->(∀k,V k->U k/\¬x k)->Ev (FC F (λj=>j=g)) l (FC x U) t->∃A c,t.cell? ⟨g,0,none⟩=some (.slice A (f.takeWhile (bW a)).length c)/\tJ F w n st (f.takeWhile (bW a)) (.returned (.tuple #[.slice A (f.takeWhile (bW a)).length c,.int .i64 0])) t):=J λx U V t a2 a3 a4 a5=>by obtain⟨v,a6,ap,z3,z4,z5⟩:=a3;obtain⟨A,c,rfl⟩:=aE ap;refine⟨A,c,a6.cell 0,A,c,rfl,x,a2,rR M d a5,ap,λk S=>(a4 k (z5 k S)).2⟩
 obtain⟨bc,K⟩:=I ((f.takeWhile (bW a)).length);refine aR ?_ h O B d E C i D G M s ab y;clear h O B d E C i D G M s ab y;intro h O B d E C i D G M s ab y;replace af:=J af;replace al:=J al;replace P:Hid _:=J P;refine bz ?_ z p r K;clear z p r K;intro z p r K;have a9:(w.alloc (.cells #[.slice none 0 0] 38)).cell? ⟨gc,1+(3+o),none⟩=some (.pointer (some ⟨gt,0,none⟩)):=by rw[<-b];exact a1
 replace b:=J b;have ba:¬3<(o:Int):=by omega
 have a7:(o:Int)<=3:=by omega
 have a8:¬(o:Int)<0:=by omega
 clear ao;go_enter Tryz.func10,Tryz.ntmps10;go_upto_region 6 with(fail)
 rw[<-b.o,<-M.o];go_wp2_with fail;go_at_call 29;refine H.o.mono ?_;rintro e t ⟨rfl,x,U,V,W,X,Y,Z⟩;obtain⟨A,c,z0,m⟩:=T.o x U V t W X Y Z;rw[<-K.o]at z0 m;replace m:=J m;replace W:=J W;replace X:Hid _:=J X;replace Y:=J Y;replace Z:=J Z;clear H T;go_wp2_with fail
 go_ret2
 exact m.o
def oz(b c d:Nat)(w:World)(g:Nat)(v:Value)(m:Nat)(xs new:List Value)(e:Ending)(w':World):Prop:=e=.returned (.int .i64 0)/\∃a,ah w' g b #[a]/\w'.ownsRow 0 c d a (m+1) (xs++new)/\R (λk=>k=g\/v.ownBlock=some k) w w'/\(a.ownBlock=v.ownBlock\/∃j,a.ownBlock=some j/\w.heap.size<=j)
def HQ(a b c:Nat)(f:List UInt8×List UInt8->List Value)(X:List (Nat×TypeId×Array Value))(g:Nat)(d:List (List UInt8×List UInt8))(D:Nat->Prop)(w:World):Prop:=∃v,ah w g a #[v]/\w.ownsRow 0 b c v d.length (d.flatMap f)/\(∀x∈X,ah w x.1 x.2.1 x.2.2)/\D g/\(∀x∈X,D x.1)/\(∀k,v.ownBlock=some k->D k)/\∀k,D k->k=g\/v.ownBlock=some k\/∃x∈X,x.1=k
theorem zI(o n E:Nat)(f:List UInt8×List UInt8->List Value)(X:List (Nat×TypeId×Array Value))(g:Nat)(fn:FuncId)(p:Array Value)(ok:List UInt8×List UInt8->Prop)(H:∀args K,(callFunc fn args).run Tryz.prog K=.ok (.enter fn args) K) (L:o≠194/\o≠259) (M:n≠194/\n≠259) (y:∀x∈X,x.2.1≠194/\x.2.1≠259/\x.2.1≠n/\x.1≠g)(N:∀w v m xs key b z A r B,ah w g o #[v]->w.ownsRow 0 n E v m xs->(∀x∈X,ah w x.1 x.2.1 x.2.2)->m<=900000->ok (key,b)->RB w w.heap.size z key.length key->RB w w.heap.size A b.length b->key.length<=r->b.length<=B->r<=maxLen->key.length<=100000->Calls Tryz.prog fn (#[.slice z key.length r,.slice A b.length B]++p) w (oz o n E w g v m xs (f (key,b)))):sJ fn p ok (HQ o n E f X g) where
 fn:=H
 good d D w hJ k a:=by
  obtain⟨v,s,i,l,_,_,_,F⟩:=hJ;rcases F k a with rfl|e|⟨x,c,rfl⟩
  ·exact⟨_,_,s,L.1,L.2⟩
  ·obtain⟨O,q⟩:=lF i k e;exact⟨_,_,q,M.1,M.2⟩
  ·exact⟨_,_,l x c,(y x c).1,(y x c).2.1⟩
 keep d D w w' hJ a hs:=by
  obtain⟨v,s,i,l,t,C,u,P⟩:=hJ;refine⟨v,Eq.trans (a g t) s,⟨i.1,?_⟩,λx c=>Eq.trans (a x.1 (C x c)) (l x c),t,C,u,P⟩;rcases i.2 with F|⟨G,cap,Q,rfl,U,V,ab⟩
  ·exact .inl F
  ·exact .inr ⟨G,cap,Q,rfl,U,Eq.trans (a G (u G rfl)) V,ab⟩
 step d D w key b z A r B hd hok hJ a hv lk lv mk hl:=by
  obtain⟨v,s,i,l,t,C,u,P⟩:=hJ;have W:∀k,v.ownBlock=some k->k<w.heap.size:=λk a=>by obtain⟨O,q⟩:=lF i k a;exact q.lt
  refine(N w v d.length _ key b z A r B s i l hd hok a hv lk lv mk hl).mono ?_;rintro e w' ⟨rfl,S,Y,Z,z3,z4⟩;have T:∀x∈X,ah w' x.1 x.2.1 x.2.2:=λx c=>z3.blk (l x c) (λh=>by
   rcases h with h|h
   ·exact(y x c).2.2.2 h
   ·obtain⟨O,q⟩:=lF i _ h;exact(y x c).2.2.1 (sI (l x c) q))
  refine⟨rfl,λk=>k=g\/S.ownBlock=some k\/∃x∈X,x.1=k,⟨S,Y,?_,T,.inl rfl,λx c=>.inr (.inr ⟨x,c,rfl⟩),λk a=>.inr (.inl a),λk a=>a⟩,⟨z3.mono λk _ a=>?_,λk a=>?_⟩⟩
  ·rw[aq,flatMap_append];simpa using Z
  ·rcases a with rfl|a
   ·exact t
   ·exact u k a
  ·rcases a with rfl|a|⟨x,c,rfl⟩
   ·exact .inl t
   ·rcases z4 with e|⟨j,e,ac⟩
    ·exact .inl (u k (by rw[<-e];exact a))
    ·rw[e]at a;injection a with a;exact .inr (by omega)
   ·exact .inl (C x c)
def gM:List UInt8->List UInt8
 |[]=>[]
 |x::a=>if x=0 then(match a with
  |[]=>[]
  |y::s=>if y=255 then 0::gM s else[])else x::gM a
theorem ED{x:UInt8}(a:List UInt8)(h:x≠0):gM (x::a)=x::gM a:=by rw[gM.eq_def];simp only[if_neg h]
theorem EE(s:List UInt8):gM (0::255::s)=0::gM s:=by rw[gM.eq_def];simp
theorem EF(s:List UInt8):gM (0::1::s)=[]:=by rw[gM.eq_def];simp
theorem lY:∀(s a:List UInt8),gM (df s++a)=s
 |[],a=>EF a
 |x::s,a=>by
  rw[ib,av]
  by_cases b:x=0
  ·subst b;show gM (0::255::(df s++a))=_;rw[EE,lY s a]
  ·rw[show iG x=[x]from by simp[iG,b]];show gM (x::(df s++a))=_;rw[ED _ b,lY s a]
def oB(q:KV)(i:Nat):Value:=.int .i64 (fH ((q.2.drop (6*i)).take 6):Int)
def lG(q:KV):List Value:=[.string (str (gM q.1)),oB q 0,oB q 1,oB q 2,oB q 3,oB q 4]
def cQ(a:cC):List Value:=[.string (str a.path),.int .i64 (a.stamp:Int),.int .i64 (a.long:Int),.int .i64 (a.id:Int),.int .i64 (a.files.length:Int),.int .i64 (a.bad:Int)]
theorem zJ{a:cC}(h:a.ok):lG (fL a)=cQ a:=by
 have d:(256:Nat)^6=281474976710656:=by decide
 have f:=h.stamp;have g:=h.long;have j:=h.id;have k:=h.many;have l:=h.bad;have b:∀(i n:Nat),[a.stamp,a.long,a.id,a.files.length,a.bad][i]?=some n->n<256^6->oB (fL a) i=.int .i64 (n:Int):=λi n c b=>by unfold oB;have q:=mK 6 [a.stamp,a.long,a.id,a.files.length,a.bad] i n c b;show Value.int .i64 (fH (((kz a).drop (6*i)).take 6):Int)=_;unfold kz;rw[q]
 unfold lG cQ;rw[b 0 a.stamp rfl (by omega),b 1 a.long rfl (by omega),b 2 a.id rfl (by omega),b 3 a.files.length rfl (by omega),b 4 a.bad rfl (by omega)];have e:gM (fL a).1=a.path:=by
  show gM (bK [str a.path])=_;rw[qC];have:=lY a.path []
  rwa [append_nil]at this
 rw[e]
theorem EG:(Tryz.prog.info? 54).map (λi=>(i.zero,i.size,i.bytes))=some (some (.agg #[.string ⟨#[]⟩,.int .i64 0,.int .i64 0,.int .i64 0,.int .i64 0,.int .i64 0]),6,56):=by kernel_rfl
theorem xz(w:World)(base:Nat)(v:Value)(m:Nat)(xs:List Value)(f:w.ownsRow base 54 6 v m xs)(g:Nat)(a:cC)(i:ah w g 54 (cQ a).toArray)(ty:TypeId)(q:m+1<=1000000)(b:base<=w.heap.size):∃c w',(Builtin.append_ #[94,94] ty #[v,.slice (some ⟨g,0,none⟩) 1 1]).run Tryz.prog w=.ok c w'/\w'.ownsRow base 54 6 c (m+1) (xs++cQ a)/\w.grownBy w' v.ownBlock/\(c.ownBlock=v.ownBlock\/c.ownBlock=some w.heap.size):=by
 obtain⟨i0,k,l,n,o⟩:=info_parts EG;exact bN (P:=Tryz.prog) w base 94 ty 54 i0 _ 6 56 Tryz.underlying94 k l n o rfl (by omega) v m xs f w.heap.size (some ⟨g,0,none⟩) 1 1 (cQ a) ⟨rfl,λ_=>⟨_,rfl,i.lt,λj u d=>by
  have e:(Addr.mk g 0 none).add j=⟨g,j,none⟩:=by
   unfold Addr.add;by_cases p:j=0
   ·subst p;rfl
   ·rw[if_neg p];simp
  rw[e,i.cell];simpa using d⟩⟩ (by intro u d;simp[cQ]at d;rcases d with rfl|rfl|rfl|rfl|rfl|rfl<;>rfl) (by simp only[maxLen];omega) (by omega) b
theorem EH:∀args a,(callFunc 72 args).run Tryz.prog a=.ok (.enter 72 args) a:=λargs a=>by have h:=Tryz.func72;simp[callFunc,Sem.run_bind,go_sem,h,Tryz.f72]
theorem BV(w:World)(g:Nat)(v:Value)(m:Nat)(xs:List Value)(t:ah w g 94 #[v]) (i:w.ownsRow 0 54 6 v m xs) (a2:m<=900000) (W Y:Option Addr) (n ad N Z:Nat) (a:cC) (r:a.ok) (ab:n=(fL a).1.length) (a3:N=30) (E:RB w w.heap.size W n (fL a).1) (z:RB w w.heap.size Y N (fL a).2) (T:N<=Z) (ae:n<=100000):Calls Tryz.prog 72 #[.slice W n ad,.slice Y N Z,.pointer (some ⟨g,0,none⟩)] w (oz 94 54 6 w g v m xs (cQ a)):=by
 subst a3;have A:=J (zK W n ad 0 (fL a).1 [] a.path w E (by omega) (by omega) (by rw[drop_zero,append_nil];exact qC a.path));obtain⟨X,O⟩:=I (0+(df a.path).length);rw[<-O]at A;have B:=J (λ(F:World) (u:Below w.heap.size w F)=>uN F (str a.path) Y Z a.stamp a.long a.id a.files.length a.bad ((z.below u).more u.size) T (by have:=r.stamp;omega) (by have:=r.long;omega) (by have:=r.id;omega) (by have:=r.many;omega) (by have:=r.bad;omega));obtain⟨x,f⟩:=I (str a.path);rw[<-f]at A B;have P:Hid (∀c v5 d,Below w.heap.size w c->(Builtin.append_ #[94,94] 94 #[v,.slice (some ⟨c.heap.size+1,0,none⟩) 1 1]).run Tryz.prog ((c.alloc (.cells (cQ a).toArray 54)).alloc (.cells (cQ a).toArray 54))=.ok v5 d->(∃C G,(Builtin.append_ #[94,94] 94 #[v,.slice (some ⟨c.heap.size+1,0,none⟩) 1 1]).run Tryz.prog ((c.alloc (.cells (cQ a).toArray 54)).alloc (.cells (cQ a).toArray 54))=.ok C G/\G.ownsRow 0 54 6 C (m+1) (xs++cQ a)/\((c.alloc (.cells (cQ a).toArray 54)).alloc (.cells (cQ a).toArray 54)).grownBy G v.ownBlock/\(C.ownBlock=v.ownBlock\/C.ownBlock=some (c.heap.size+2)))->True):=J λ_ _ _ _ _ _=>trivial;clear P;have l:Hid (∀c,Below w.heap.size w c->∃H c5 d,(Builtin.append_ #[94,94] 94 #[v,.slice (some ⟨c.heap.size+1,0,none⟩) 1 1]).run Tryz.prog ((c.alloc (.cells (cQ a).toArray 54)).alloc (.cells (cQ a).toArray 54))=.ok (.slice H (m+1) c5) d/\d.cell? ⟨g,0,none⟩=some v/\d.frozen? ⟨g,0,none⟩=false/\oz 94 54 6 w g v m xs (cQ a) (.returned (.int .i64 0)) (d.setCell ⟨g,0,none⟩ (.slice H (m+1) c5))):=J λc u=>by
  have K:R (λ_=>False) w ((c.alloc (.cells (cQ a).toArray 54)).alloc (.cells (cQ a).toArray 54)):=((R.ag u).alloc _).alloc _;have ac:=K.row i (λ_ _ h=>h);have af:=cT c (.cells (cQ a).toArray 54) 54 (cQ a).toArray;obtain⟨v5,d,y,q,U,al⟩:=xz _ 0 _ m xs ac (c.heap.size+1) a af 94 (by omega) (zero_le _);have am:some g≠v.ownBlock:=λe=>au i t (by decide) e.symm;have an:ah ((c.alloc (.cells (cQ a).toArray 54)).alloc (.cells (cQ a).toArray 54)) g 94 #[v]:=K.blk t (λh=>h);have D:ah d g 94 #[v]:=an.grown U am;have ao:R (λk=>k=g\/v.ownBlock=some k) w d:=(K.mono λk _ h=>h.elim).grown U (λk E _=>.inr E);have a0:R (λk=>k=g\/v.ownBlock=some k) w (d.setCell ⟨g,0,none⟩ v5):=ao.setCell (p:=⟨g,0,none⟩) (λ_=>.inl rfl) v5;have a1:R (λk=>k=g) d (d.setCell ⟨g,0,none⟩ v5):=(R.refl (λk=>k=g) d).setCell (p:=⟨g,0,none⟩) (λ_=>rfl) v5;have j:oz 94 54 6 w g v m xs (cQ a) (.returned (.int .i64 0)) (d.setCell ⟨g,0,none⟩ v5):=by
   refine⟨rfl,v5,D.aK 0 v5,a1.row q (aI q D (by decide)),a0,?_⟩;rcases al with e|e
   ·exact .inl e
   ·exact .inr ⟨_,e,by have:=u.size;simp;omega⟩
  obtain⟨H,c5,rfl⟩:=aE q;exact⟨H,c5,d,y,D.cell 0,D.frozen 0,j⟩
 have Q:Hid (∀F,Below w.heap.size w F->F.cell? ⟨g,0,none⟩=some v):=J λF u=>(t.below u t.lt).cell 0;obtain⟨a5,a6,rfl⟩:=aE i;refine dS ?_ t i E z r O f ab;clear t i E z r O f ab;intro t i E z r O f ab;obtain⟨ap,s0,s1,s2,s4,a4⟩:=a;simp only[cQ]at *;obtain⟨s3,L⟩:=I (a4.length);rw[<-L]at B l⊢;rw[<-f.o]at l⊢;replace L:=J L;clear T ae a2;go_enter Tryz.func72,Tryz.ntmps72;go_wp2_with fail;go_at_call 73;refine A.o.mono ?_;rintro e c ⟨rfl,s⟩;have V:=J (B.o c s);replace s:=J s;go_wp2_with fail;go_at_call 38;refine V.o.mono ?_;rintro e S ⟨rfl,M⟩;have b:=s.o.trans (M.mono s.o.size);obtain⟨H,c5,d,y,z5,f5,j⟩:=l.o S b;have a7:=Q.o S b;have z3:=Q.o (S.alloc (.cells #[.string x,.int .i64 (s0:Int),.int .i64 (s1:Int),.int .i64 (s2:Int),.int .i64 (s3:Int),.int .i64 (s4:Int)] 54)) (b.alloc b.size _);have z4:=Q.o ((S.alloc (.cells #[.string x,.int .i64 (s0:Int),.int .i64 (s1:Int),.int .i64 (s2:Int),.int .i64 (s3:Int),.int .i64 (s4:Int)] 54)).alloc (.cells #[.string x,.int .i64 (s0:Int),.int .i64 (s1:Int),.int .i64 (s2:Int),.int .i64 (s3:Int),.int .i64 (s4:Int)] 54)) ((b.alloc b.size _).alloc (by have:=b.size;simp;omega) _);replace j:Hid _:=J j;replace M:=J M;replace b:=J b;clear A V B Q l;go_wp2_with(at_builtin;refine Lib.wpList_append_run _ rfl (.tmp 23) (.tmp 25) 94 94 rfl _ _ rfl rfl _ _ y ?_);first|exact j.o|(go_ret;exact j.o)
def jJ(G:Nat->Prop)(w:World)(A:Option Addr)(b:List aX):Prop:=
 ∀i f,b[i]?=some f->∃a,A=some a/\G a.block/\w.cell? (a.add (i*7))=some (.string (str f.name))/\w.cell? ⟨(a.add (i*7)).block,(a.add (i*7)).off+1,none⟩=some (.int .i64 (f.cI:Int))/\w.cell? ⟨(a.add (i*7)).block,(a.add (i*7)).off+2,none⟩=some (.int .i64 (f.gX:Int))/\
  w.cell? ⟨(a.add (i*7)).block,(a.add (i*7)).off+3,none⟩=some (.int .u32 (f.crc:Int))/\w.cell? ⟨(a.add (i*7)).block,(a.add (i*7)).off+4,none⟩=some (.int .i64 (f.bR:Int))/\w.cell? ⟨(a.add (i*7)).block,(a.add (i*7)).off+5,none⟩=some (.int .i64 (f.size:Int))/\w.cell? ⟨(a.add (i*7)).block,(a.add (i*7)).off+6,none⟩=some (.int .i64 (f.at_:Int))
theorem jJ.ev{F d:Nat->Prop}{w w':World}{A:Option Addr}{g:List aX}(h:jJ (bF F w) w A g)(j:Ev F w d w'):jJ (bF d w') w' A g:=λi f l=>by obtain⟨a,e,k,m,n,o,q,r,s,t⟩:=h i f l;have b:(a.add (i*7)).block=a.block:=cF _ _;have c:∀p:Addr,p.block=a.block->w'.cell? p=w.cell? p:=λp u=>World.cell?_of_block (by rw[u];exact j.block k);exact⟨a,e,j.mine k,(c _ b).trans m,(c ⟨(a.add (i*7)).block,(a.add (i*7)).off+1,none⟩ b).trans n,(c ⟨(a.add (i*7)).block,(a.add (i*7)).off+2,none⟩ b).trans o,(c ⟨(a.add (i*7)).block,(a.add (i*7)).off+3,none⟩ b).trans q,(c ⟨(a.add (i*7)).block,(a.add (i*7)).off+4,none⟩ b).trans r,(c ⟨(a.add (i*7)).block,(a.add (i*7)).off+5,none⟩ b).trans s,(c ⟨(a.add (i*7)).block,(a.add (i*7)).off+6,none⟩ b).trans t⟩
theorem zL(a:World)(g:Nat)(s:ByteArray)(c:ah a g 9 #[.string s]) (d:s.size<=1000) (e:iF a):Calls Tryz.prog 23 #[.slice none 0 0,.slice (some ⟨g,0,none⟩) 1 1] a (dH a (bK [s])):=by obtain⟨f,m,i⟩:=e;have q:=ny none _ 0 1 0 1 [] [s] m a (RB.nil _ _) (RS.rU c) (by omega) (by omega) (by intro t b;simp at b;rw[b];exact d) f i;rw[nil_append]at q;exact q
def Md:Op:=Op.convert 9 23 (Operand.tmp 122)
theorem HY(s:ByteArray):∃(K:World->Nat) (C:World->Obj),(∀w,(convert 9 23 (.string s)).run Tryz.prog w=.ok (.slice (some ⟨w.heap.size,0,none⟩) s.size (K w)) (w.drew.alloc (C w)))/\ ∀(w w':World) (g:Nat),w'.heap[g]?=some (C w)->∀(j:Nat) (u:Value),(bv s.data.toList)[j]?=some u->w'.cell? ⟨g,j,none⟩=some u:=by refine⟨λw=>grownCap w s.size 0 5,λw=>Obj.cells (bytesRow s (grownCap w s.size 0 5)) 5 ((bytesRow s (grownCap w s.size 0 5)).size,(bytesRow s (grownCap w s.size 0 5)).size+1),λw=>run_bytes_of_string w 9 23 5 s Tryz.underlying9 Tryz.underlying23 Tryz.underlying5,λw w' g c j u b=>?_⟩;rw[cell_of_row _ _ _ _ _ _ c];have a:=(ay.1 b).1;simp[bv]at a;unfold bytesRow;rw[Array.getElem?_append_left (by simpa using a)];simpa[bv]using b
theorem MB.conv{F:Nat->Prop}{w w':World}{g:Nat}{l:List UInt8}{o:Obj}(a:∀(w':World) (g:Nat),w'.heap[g]?=some o->∀(j:Nat) (u:Value),(bv l)[j]?=some u->w'.cell? ⟨g,j,none⟩=some u)(h:w'.heap[g]?=some o)(hF:¬F g):MB F w' (some ⟨g,0,none⟩) l.length l:=by refine⟨by simp[bv],λ_=>⟨_,rfl,⟨(Array.getElem?_eq_some_iff.1 h).1,hF⟩,λj u b=>?_⟩⟩;rw[show(⟨g,0,none⟩:Addr).add j=⟨g,j,none⟩from by unfold Addr.add;split<;>simp_all];exact a w' g h j u b
def M8(st:aB)(id:Nat):Prop:=∀(w:World) (F:Nat->Prop) (gc a:Nat) (b:Nat->Nat),ar w F a st->fD w F gc a b->Calls Tryz.prog 21 #[.pointer (some ⟨gc,0,none⟩)] w (zG F w a st id)
theorem iF.mine{F:Nat->Prop}{w:World}(h:iF w)(a:¬F 2):bF F w 2:=by exact⟨h.1,a⟩
inductive jq (id:Nat):aB->Nat->List aX->aB->Prop
 |nil (st:aB) (no:Nat):jq id st no [] st
 |cons (st st':aB) (S:Nat->aB) (no:Nat) (f:aX) (r:List aX) (P0:mn st 1 (aP [(id:Int),(no:Int)]) (dx f) (S 0)) (P:∀b,b<4->mn (S b) (3+b) (bh b f++aP [(id:Int),(no:Int)]) [] (S (b+1))) (hr:jq id (S 4) (no+1) r st'):jq id st no (f::r) st'
def HZ(F:Nat->Prop)(w:World)(a:Nat)(st':aB)(e:Ending)(w':World):Prop:=cG F w a st' (.int .i64 0) e w'
theorem lZ(f:aX)(a:f.ok)(b:Nat):(bh b f).length<=100000:=by
 unfold bh;have c:=eu [(f.size:Int)];have d:=eu [(f.gX:Int)];have e:=eu [(f.crc:Int)];have g:(bK [str f.name]).length<=2*f.name.length+2:=by have:=pQ f.name;simp only[bK,flatMap_cons,flatMap_nil,append_nil,fW];exact this
 have i:=a.name;simp only[length_cons,length_nil]at c d e;split
 ·omega
 ·split
  ·omega
  ·split<;>omega
theorem zM(w:World)(F:Nat->Prop)(gc p:Nat)(G:Nat->Nat)(st bg dC ja:aB)(h:ar w F p st)(a2:fD w F gc p G)(ct:mc w)(ab:iF w)(an:¬F 2)(d:List UInt8)(g long id:Nat)(dt:Option Addr)(n el:Nat)(H:List aX)(du:1<=d.length) (dv:d.length<=24) (cv:g<=281474976710655) (bl:long<=281474976710655) (bm:jJ (bF F w) w dt H) (b7:H.length=n) (eK:n<=1000) (a3:∀f∈H,f.ok/\gH f.c=true)(bp:C4 st 0 (bK [str d])) (hid:M8 st id) (cw:mn st 0 (bK [str d]) (bP 6 [g,long,id,n,0]) bg) (cx:mn bg 2 (aP [(id:Int)]) d dC) (ap:id<281474976710656) (br:jq id dC 0 H ja):Calls Tryz.prog 8 #[.pointer (some ⟨gc,0,none⟩),.string (str d),.int .i64 (g:Int),.int .i64 (long:Int),.slice dt n el,.int .i64 0] w (HZ F w p ja):=by
 have cK:Hid (∀l:World,Calls Tryz.prog 19 #[.int .i64 281474976710655,.slice (some ⟨l.heap.size,0,none⟩) 2 2] (l.alloc (.cells #[.int .i64 (g:Int),.int .i64 (long:Int)] 3)) λe w'=>e=.returned (.bool true)/\l.alloc (.cells #[.int .i64 (g:Int),.int .i64 (long:Int)] 3)=w'):=J λl=>by
  have q:=vO _ _ 2 2 [(g:Int),(long:Int)] (RI.lits l [(g:Int),(long:Int)] 3 2 rfl) (by omega) 281474976710655;rw[show xL 281474976710655 [(g:Int),(long:Int)]=true by unfold xL;simp;omega]at q
  exact q
 have cL:Hid (∀(l:World) (b9:Obj),Calls Tryz.prog 19 #[.int .i64 255,.slice (some ⟨l.heap.size+1,0,none⟩) 1 1] ((l.alloc b9).alloc (.cells #[.int .i64 0] 3)) λe w'=>e=.returned (.bool true)/\(l.alloc b9).alloc (.cells #[.int .i64 0] 3)=w'):=J λl b9=>by have em:(l.alloc b9).heap.size=l.heap.size+1:=World.size_alloc _ _;rw[<-em];exact vO _ _ 1 1 [0] (RI.lits (l.alloc b9) [0] 3 1 rfl) (by omega) 255
 have ca:(str d).size=d.length:=dV d;obtain⟨cb,L⟩:=I (d.length);rw[<-L]at du dv ca;have en:(1:Int)<=(cb:Int):=by omega
 have eo:(cb:Int)<=24:=by omega
 refine eD ?_ h a2 ct ab an cv bl;clear h a2 ct ab an cv bl;intro h a2 ct ab an cv bl;replace bm:Hid _:=J bm;refine ik ?_ b7 a3 bp hid cw cx ap br L;clear b7 a3 bp hid cw cx ap br L;intro b7 a3 bp hid cw cx ap br L;go_enter Tryz.func8,Tryz.ntmps8;go_wp2_with fail;go_at_call 19;refine(cK.o _).mono ?_;rintro e e3 ⟨rfl,rfl⟩;go_wp2_with fail;go_at_call 19;refine(cL.o _ _).mono ?_;rintro e dy ⟨rfl,rfl⟩;clear cK cL;obtain⟨dy,bs⟩:=I ((w.alloc (.cells #[.int .i64 (g:Int),.int .i64 (long:Int)] 3)).alloc (.cells #[.int .i64 0] 3));rw[<-bs];have cM:=J (by rw[bs];exact dR w _ _:Below w.heap.size w dy);replace bs:=J bs;go_wp2_with fail;go_loopw [13,57] (λdT v57 l=>∃k:Nat,k<=n/\dT=.bool true/\v57=.int .i64 (k:Int)/\Hid (Below w.heap.size w l)) (λ_ v57 _=>n-(intOf v57).toNat)
 case atStart=>exact⟨0,by omega,rfl,rfl,cM⟩
 case round=>
  obtain⟨k,b8,rfl,rfl,ac⟩:=hrel;by_cases d0:k<n
  ·have d1:(k:Int)<(n:Int):=by omega
   have eL:(0:Int)<=(k:Int):=by omega
   have cP:k<H.length:=by have:=b7.o;omega
   obtain⟨f,Z⟩:∃f,H[k]?=some f:=⟨_,ak cP⟩;obtain⟨U,cS⟩:=a3.o f (bu Z);obtain⟨ep,rfl,_,c7,c8,c9,da,db,c5,dc⟩:=(bm.o.ev (Ev.ag ac.o)) k f Z;have bv:=ct.o.below ac.o;have cc:=J (Fh (wr.alloc (.cells (gG f) 49)) f.c (bv.below ((Below.refl _ wr).alloc (aa _) _)));rw[cS]at cc;have cV:=J (ac.o.alloc ac.o.size (.cells (gG f) 49));obtain⟨eq,er,es,et,ex,ey,at_⟩:=f;simp only[gG,aX.c]at *;refine bf ?_ U Z bv;clear U Z bv;intro U Z bv;clear cP;go_wp2_with fail;go_at_call 20;refine cc.o.mono ?_;rintro e cy ⟨rfl,ce⟩;have d2:=J (cV.o.trans (ce.mono cV.o.size):Below w.heap.size w cy);replace ce:=J ce;clear cc c7 c8 c9 da db c5 dc;go_wp2_with fail;go_roundw
   case rel=>exact⟨k+1,by omega,rfl,by congr 1,d2⟩
   case measure=>simp[intOf];omega
  ·obtain rfl:k=n:=by omega
   have cX:=J (Ev.ag (F:=F) ac.o);have bx:ar wr F p st:=h.o.below ac.o;have bA:=a2.o.ev cX.o;have a0:=ab.o.below ac.o;have cY:=J (Hy wr F gc p G st bx bA a0 d (by rw[<-L.o];omega) bp.o);have d1:¬1000<(k:Int):=by omega
   have eA:(k:Int)<=1000:=by omega
   refine bf ?_ bx bA a0;clear bx bA a0;intro bx bA a0;clear d0 cM;go_wp2_with fail;go_at_call 14;refine cY.o.mono ?_;rintro e d3 ⟨rfl,d4,bB,b0⟩;obtain⟨dd,d5⟩:=I (Obj.cells #[.string ⟨#[]⟩,.int .i64 0,.int .i64 0,.int .i64 0,.int .i64 0,.int .i64 0] 54);have V:Ev F w d4 (d3.alloc dd):=(cX.o.trans b0).az _;have ad:=bB.alloc dd;have c0:=J (hid.o (d3.alloc dd) d4 gc p G ad (a2.o.ev V));subst d5;refine bz ?_ bB b0 V ad;clear bB b0 V ad;intro bB b0 V ad;clear cY;go_wp2_with fail;go_at_call 21;refine c0.o.mono ?_;rintro e y ⟨rfl,am,a4,cf⟩;have bi:=J (V.o.trans cf);have b1:=J (a2.o.ev bi.o);have d6:=J (ab.o.ev bi.o an.o);have d7:y.cell? ⟨gc,1,none⟩=some (.pointer (some ⟨G 0,0,none⟩)):=b1.o.blk.cell 1;have cg:=J a4.lt;have ch:Hid (∀w' ci,Ev am y ci w'->w'.cell? ⟨gc,1,none⟩=some (.pointer (some ⟨G 0,0,none⟩))):=J λW ci de=>(b1.o.ev de).blk.cell 1;replace a4:=J a4;replace cf:=J cf;clear c0;obtain⟨d8,b2⟩:=I (bK [str d]);obtain⟨d9,a5⟩:=I (bP 6 [g,long,id,k,0]);have c1:=J (by rw[a5,cU];rfl:d9.length=30);have ae:=cw.o;rw[<-b2,<-a5]at ae;unfold mn at ae;rw[c1.o]at ae;replace ae:=J ae;have ea:Hid (∀x∈[g,long,id,k,0],x<9223372036854775808):=J (by have e4:=cv.o;have e5:=bl.o;have e6:=ap.o;intro x a6;simp at a6;rcases a6 with rfl|rfl|rfl|rfl|rfl<;>omega)
   replace b2:=J b2;replace a5:=J a5;go_upto_region 21 with(fail)
   go_cut [20] (λv20 l=>v20=.int .i64 0/\Hid (∃i,ar l i p bg/\Ev am y i l))
   case first=>
    go_region_held3 (λw'=>w'.cell? ⟨gc,1,none⟩=some (.pointer (some ⟨G 0,0,none⟩))) (first|exact d7|(exact ch.o _ _ r.o)|(exact ch.o _ am (Ev.ag (by with_reducible first|exact m.o|exact s.o|exact m.o.alloc m.o.size _|exact s.o.alloc s.o.size _)))|go_keep) (first
     |(go_at_call 23;(fail_if_success (clear s));refine(zL _ _ (str d) (by with_reducible first|exact ah.new _ _ _|exact(ah.new _ _ _).drew|exact((ah.new _ _ _).alloc _).drew|exact(cT _ _ _ _).drew|exact(ah.new _ _ _).drew.below X.o (by simp<;>omega)|exact((ah.new _ _ _).alloc _).drew.below X.o (by simp<;>omega)|exact(cT _ _ _ _).drew.below X.o (by simp<;>omega)) (by rw[ca];omega) (d6.o.below (by with_reducible first|exact(Below.refl _ y).drew|exact((Below.refl _ y).alloc (aa _) _).drew|exact(dR y _ _).drew|exact m.o|exact m.o.alloc m.o.size _))).mono ?_;rintro e dj ⟨e7,rfl,a7,Y⟩;rw[<-b2.o]at a7;have s:Hid (Below y.heap.size y dj):=J (Below.trans (by with_reducible first|exact(Below.refl _ y).drew|exact((Below.refl _ y).alloc (aa _) _).drew|exact(dR y _ _).drew|exact m.o|exact m.o.alloc m.o.size _) (Y.mono (by first|(have:=m.o.size;simp<;>omega)|(simp<;>omega))));obtain⟨eb,eE,rfl,_,_,eN,_⟩:=a7.form;have T:Hid (MB am dj eb d8.length d8):=J (MB.made a7 (λk b8=>by have:=cg.o k b8;first|(have:=m.o.size;simp<;>omega)|(simp<;>omega)));(try(have cz:=J (cj.o.ev (Ev.ag (F:=am) (by with_reducible first|exact Y|exact((Below.refl _ dk).alloc (aa _) _).trans (Y.mono (by simp)))))));replace a7:=J a7;replace Y:=J Y)
     |(go_at_call 24;(fail_if_success (clear m));refine(pG _ none 0 0 6 _ [] 3 [g,long,id,k,0] (RB.nil _ _) #[.int .i64 (g:Int),.int .i64 (long:Int),.int .i64 (id:Int),.int .i64 (k:Int),.int .i64 0] (by with_reducible first|exact ah.new _ _ _|exact(ah.new _ _ _).drew|exact((ah.new _ _ _).alloc _).drew|exact(cT _ _ _ _).drew|exact(ah.new _ _ _).drew.below Y.o (by simp<;>omega)|exact((ah.new _ _ _).alloc _).drew.below Y.o (by simp<;>omega)|exact(cT _ _ _ _).drew.below Y.o (by simp<;>omega)) rfl (by omega) (by simp) (by omega) (by omega) ea.o).mono ?_;rintro e dk ⟨e8,rfl,a8,X⟩;rw[nil_append,<-a5.o,c1.o]at a8;have m:Hid (Below y.heap.size y dk):=J (Below.trans (by with_reducible first|exact(Below.refl _ y).drew|exact((Below.refl _ y).alloc (aa _) _).drew|exact(dR y _ _).drew|exact s.o|exact s.o.alloc s.o.size _) (X.mono (by first|(have:=s.o.size;simp<;>omega)|(simp<;>omega))));obtain⟨ec,eI,rfl,_,_,eQ,_⟩:=a8.form;have cj:Hid (MB am dk ec 30 d9):=J (MB.made a8 (λk b8=>by have:=cg.o k b8;first|(have:=s.o.size;simp<;>omega)|(simp<;>omega)));(try(have cA:=J (T.o.ev (Ev.ag (F:=am) (by with_reducible first|exact X|exact((Below.refl _ dj).alloc (aa _) _).trans (X.mono (by simp)))))));replace a8:=J a8;replace X:=J X)
     |(go_at_call 22;refine(ae.o _ am (G 0) p eb ec eE eI (by with_reducible first|exact a4.o.below m.o|exact a4.o.below s.o) (by with_reducible first|exact(b1.o.tree 0 (by omega)).ev (Ev.ag m.o)|exact(b1.o.tree 0 (by omega)).ev (Ev.ag s.o)) (by with_reducible first|exact cA.o|exact T.o) (by with_reducible first|exact cz.o|exact cj.o)).mono ?_;rintro e a ⟨rfl,i,t,b3⟩;have r:Hid (Ev am y i a):=J (by with_reducible first|exact(Ev.ag m.o).trans b3|exact(Ev.ag s.o).trans b3);replace t:=J t;replace b3:=J b3))
    all_goals
     have cB:Hid (∃i,ar a i p bg/\Ev am y i a):=J ⟨i,t.o,r.o⟩;go_wp2_with fail
     go_meet
     case rel=>exact⟨rfl,cB⟩
   obtain⟨rfl,c2⟩:=hcut;obtain⟨i,t,r⟩:=c2.o;have bj:=J (bi.o.trans r);have ao:=J (a2.o.ev bj.o);have ck:wc.cell? ⟨gc,3,none⟩=some (.pointer (some ⟨G 2,0,none⟩)):=ao.o.blk.cell 3;have M:=J t.lt;have a1:Hid (∀w' ci,Ev i wc ci w'->w'.cell? ⟨gc,3,none⟩=some (.pointer (some ⟨G 2,0,none⟩))):=J λW ci de=>(ao.o.ev de).blk.cell 3;obtain⟨a,b4⟩:=I (wc);rw[<-b4]at t r bj ao ck M a1⊢;refine bf ?_ b4 t r;clear b4 t r;intro b4 t r;clear c2 d7 ch;obtain⟨K,C,c3,af⟩:=HY (str d);rw[ca]at c3;rw[fW]at af;replace af:=J af;obtain⟨ee,a9⟩:=I (aP [(id:Int)]);have c4:=J (by rw[a9];exact eu _:ee.length=6);have N:=cx.o;rw[<-a9]at N;unfold mn at N;rw[c4.o,<-L.o]at N;replace N:=J N;replace a9:=J a9;go_upto_region 24 with(fail)
   have ef:Md=Op.convert 9 23 (Operand.tmp 122):=rfl;rw[<-ef];go_cut [21] (λv21 l=>v21=.int .i64 0/\Hid (∃O,ar l O p dC/\Ev i a O l))
   case first=>
    go_region_held3 (λw'=>w'.cell? ⟨gc,3,none⟩=some (.pointer (some ⟨G 2,0,none⟩))) (first|(with_reducible exact ck)|(with_reducible exact a1.o _ _ E.o)|(with_reducible exact a1.o _ i (Ev.ag (by with_reducible first|exact D.o|exact D.o.alloc D.o.size _|exact(D.o.alloc D.o.size _).drew|exact(Below.refl _ a).drew|exact((Below.refl _ a).alloc (aa _) _).drew|exact(dR a _ _).drew|exact((Below.refl _ a).alloc (aa _) _).drew.drew|exact(dR a _ _).drew.drew|exact((Below.refl _ a).drew.alloc (aa _) _)|exact((Below.refl _ a).drew.drew.alloc (aa _) _))))|go_keep) (first
     |(go_at_call 25;refine(eC _ none 0 0 _ [] 3 [(id:Int)] #[.int .i64 (id:Int)] (RB.nil _ _) (by with_reducible first|exact(ah.new _ _ _).drew|exact ah.new _ _ _|exact((ah.new _ _ _).alloc _).drew|exact(cT _ _ _ _).drew|exact(ah.new _ _ _).drew.drew|exact((ah.new _ _ _).alloc _).drew.drew|exact(cT _ _ _ _).drew.drew) rfl (by omega) (by simp)).mono ?_;rintro e z ⟨e9,rfl,ba,bb⟩;rw[nil_append,<-a9.o,c4.o]at ba;have D:Hid (Below a.heap.size a z):=J (Below.trans (by with_reducible first|exact(Below.refl _ a).drew|exact((Below.refl _ a).alloc (aa _) _).drew|exact(dR a _ _).drew|exact((Below.refl _ a).alloc (aa _) _).drew.drew|exact(dR a _ _).drew.drew|exact((Below.refl _ a).drew.alloc (aa _) _)|exact((Below.refl _ a).drew.drew.alloc (aa _) _)) (bb.mono (by simp<;>omega)));obtain⟨cD,dl,rfl,_,_,eR,_⟩:=ba.form;have T:=J (MB.made ba (λk b8=>by have:=M.o k b8;simp<;>omega):MB i z cD 6 ee);replace ba:=J ba;replace bb:=J bb)
     |(go_at_call 22;have A:Hid (Below a.heap.size a (z.alloc (C z)).drew):=J (D.o.alloc D.o.size _).drew;have bc:MB i (z.alloc (C z)).drew (some ⟨z.heap.size,0,none⟩) cb d:=(by rw[L.o];exact MB.conv (w:=a) (af.o z) (show(z.heap.push (C z))[z.heap.size]?=some (C z)by simp) (λa6=>by have:=M.o _ a6;have:=D.o.size;omega));have cl:=λcm=>N.o _ i (G 2) p cD (some ⟨z.heap.size,0,none⟩) dl cm (t.o.below A.o) ((ao.o.tree 2 (by omega)).ev (Ev.ag A.o)) (T.o.ev (Ev.ag (F:=i) ((Below.refl _ z).alloc (aa _) _).drew)) bc;(with_reducible refine(cl _).mono ?_);rintro e bd ⟨rfl,O,u,B⟩;have E:=J ((Ev.ag A.o).trans B:Ev i a O bd);replace u:=J u;replace B:=J B)|(go_at_call 22;have A:Hid (Below a.heap.size a z):=D;have bc:MB i z (some ⟨a.heap.size+1,0,none⟩) cb d:=(by rw[L.o];refine(MB.conv (w:=a) (af.o (a.alloc (.cells #[.int .i64 (id:Int)] 3)).drew) ?_ (λa6=>by have:=M.o _ a6;omega)).ev (Ev.ag (F:=i) bb.o);(show((a.heap.push _).push _)[a.heap.size+1]?=_;(have e:=@Array.getElem?_push_size _ (a.heap.push (.cells #[.int .i64 (id:Int)] 3)) (C (a.alloc (.cells #[.int .i64 (id:Int)] 3)).drew);rw[Array.size_push]at e;exact e)));have cl:=λcm=>N.o _ i (G 2) p cD (some ⟨a.heap.size+1,0,none⟩) dl cm (t.o.below A.o) ((ao.o.tree 2 (by omega)).ev (Ev.ag A.o)) T.o bc;(with_reducible refine(cl _).mono ?_);rintro e bd ⟨rfl,O,u,B⟩;have E:=J ((Ev.ag A.o).trans B:Ev i a O bd);replace u:=J u;replace B:=J B)|(go_at_call 22;have A:Hid (Below a.heap.size a z):=D;have bc:MB i z (some ⟨a.heap.size,0,none⟩) cb d:=(by rw[L.o];refine(MB.conv (w:=a) (af.o a.drew) ?_ (λa6=>by have:=M.o _ a6;omega)).ev (Ev.ag (F:=i) bb.o);(show((a.heap.push _).push _)[a.heap.size]?=_;simp[Array.getElem?_push]));have cl:=λcm=>N.o _ i (G 2) p cD (some ⟨a.heap.size,0,none⟩) dl cm (t.o.below A.o) ((ao.o.tree 2 (by omega)).ev (Ev.ag A.o)) T.o bc;(with_reducible refine(cl _).mono ?_);rintro e bd ⟨rfl,O,u,B⟩;have E:=J ((Ev.ag A.o).trans B:Ev i a O bd);replace u:=J u;replace B:=J B))
    all_goals
     have cE:Hid (∃O,ar bd O p dC/\Ev i a O bd):=J ⟨O,u.o,E.o⟩;go_wp2_with fail
     go_meet
     case rel=>exact⟨rfl,cE⟩
   obtain⟨rfl,c6⟩:=hcut;obtain⟨O,u,E⟩:=c6.o;have cn:Hid (∃al,ar wc al p dC/\Ev F w al wc/\jq id dC 0 (H.drop 0) ja):=J ⟨O,u,bj.o.trans E,br.o⟩;obtain⟨bd,co⟩:=I (wc);rw[<-co]at cn⊢;replace co:=J co;clear c6 E u ck a1 af c3 N ae r;go_wp2_with fail;go_loopw [130] (λv l=>∃(j:Nat) (cH:aB),j<=k/\v=.int .i64 (j:Int)/\Hid (∃al,ar l al p cH/\Ev F w al l/\jq id cH j (H.drop j) ja)) (λv _=>k-(intOf v).toNat)
   case atStart=>exact⟨0,dC,by omega,rfl,cn⟩
   case round=>
    obtain⟨j,cH,fa,rfl,eg⟩:=hrel;obtain⟨al,be,Q,b5⟩:=eg.o;by_cases e0:j<k
    ·have e1:(j:Int)<(k:Int):=by omega
     have e2:(0:Int)<=(j:Int):=by omega
     have b6:j<H.length:=by have:=b7.o;omega
     obtain⟨f,Z⟩:∃f,H[j]?=some f:=⟨_,ak b6⟩;obtain⟨U,cS⟩:=a3.o f (bu Z);have cp:H.drop j=f::H.drop (j+1):=by rw[drop_eq_getElem_cons b6];rw[ak b6]at Z;rw[Option.some.inj Z]
     obtain⟨ep,rfl,_,c7,c8,c9,da,db,c5,dc⟩:=(bm.o.ev Q) j f Z;rw[cp]at b5;cases b5 with
     |cons _ _ S _ _ _ eh P dp=>
      have cr:=(ab.o.mine an.o)
      have cs:=J (Df (wr.alloc (.cells (gG f) 49)) al gc p G cH S (be.alloc _) (a2.o.ev (Q.az _)) (ab.o.ev (Q.az _) an.o) (Q.mine cr).2 f U id j eh P (λb _=>lZ f U b))
      have ei:=J (Q.az (.cells (gG f) 49))
      obtain⟨eq,er,es,et,ex,ey,at_⟩:=f
      simp only[gG,aX.c]at *
      replace dp:=J dp
      replace be:=J be
      replace Q:=J Q
      replace Z:=J Z
      replace cp:=J cp
      replace U:=J U
      replace cr:=J cr
      clear b6 eh P
      go_wp2_with fail
      go_at_call 26
      refine cs.o.mono ?_
      rintro e cy ⟨rfl,eJ,ad,V⟩
      have ej:Hid (∃al,ar cy al p (S 4)/\Ev F w al cy/\jq id (S 4) (j+1) (H.drop (j+1)) ja):=J ⟨eJ,ad,ei.o.trans V,dp.o⟩
      clear cs c7 c8 c9 da db c5 dc ad V
      go_wp2_with fail
      go_roundw
      case rel=>exact⟨j+1,S 4,by omega,by congr 1,ej⟩
      case measure=>simp[intOf];omega
    ·obtain rfl:j=k:=by omega
     have ek:H.drop j=[]:=drop_eq_nil_of_le (by have:=b7.o;omega);rw[ek]at b5;cases b5;have ds:Hid (HZ F w p ja (.returned (.int .i64 0)) wr):=J ⟨rfl,al,be,Q⟩;clear be Q eg cn;go_wp2_with fail;go_ret;exact ds.o
end
section
open Go.RowKit
theorem Lm(x y:Nat):5*(x+1)*y=5*x*y+5*y:=by rw[mul_succ,Nat.add_mul]
theorem JU{st st':aB}{k:Nat}{key b:List UInt8}(d:k<8)(e:1<=key.length)(f:key.length<=120)(r:b.length<=64)(g:st.ok)(i:JA k st key b st'):mn st k key b st':=λw F gt j l m n o p q a c=>Gy w F gt j k st st' p q d key b l m n o a c e f (by omega) (λh=>by omega) g i
def oC(st:aB)(k:Nat)(key:List UInt8)(st':aB):Prop:=
 ∀(w:World) (F:Nat->Prop) (gt a:Nat) (b:Option Addr) (c:Nat),ar w F a st->aL w F gt a k->MB F w b key.length key->
  Calls Tryz.prog 43 #[.pointer (some ⟨gt,0,none⟩),.slice b key.length c] w (cG F w a st' (.tuple #[.bool true,.int .i64 0]))
theorem JV{st st':aB}{fl a U:List Nat}{k:Nat}{l:List KV}{key:List UInt8}(n:k<8)(o:Inv st fl (a++U))(p:ig st k l a)(g:key∈l.map (·.1))(A:JD k st key st'):oC st k key st':=by
 intro w F gt q r s t d i;have j:Ev F w F (w.alloc (.cells #[.pointer (some ⟨gt,0,none⟩)] 66)):=(Ev.refl F w).az _;have u:st.roots k≠0:=λu=>by
  obtain⟨L,P,O,v,B,_⟩:=p;rcases v with⟨_,rfl,_⟩|⟨T,d⟩
  ·cases B;simp at g
  ·have:=d.has.1;omega
 obtain⟨m,M,C,D,E,G,H,V⟩:=CI o p u key;refine Gz w F gt q k st st' t d n o.ok r s key i A ?_;refine(qu _ F gt q k st (t.alloc _) (d.ev j) n key r s (i.ev j) _ m M rfl C D G E).mono ?_;rintro e w' ⟨K,x,y,f⟩;rcases f with⟨z,rfl⟩|⟨d,c,b,W,X,Y,N,rfl,Q,S⟩
 ·rw[H.2 g]at z;cases z
 ·exact⟨⟨_,_,_,rfl⟩,K,x,y⟩
theorem nC{st:aB}{bG:Nat->List KV}{M k:Nat}(h:fK st bG M)(d:k<7)(key b:List UInt8)(a:1<=key.length)(c:key.length<=120)(e:b.length<=64){N:Nat}(n:(bG k).length<=N)(o:M+(43+N)<=65536):∃st',mn st k key b st'/\fK st' (kG bG k (eP key b (bG k))) (M+(43+N)):=by obtain⟨st',f,g,i⟩:=G1 h d key b a c (by omega) (by omega);obtain⟨fl,j,l,m,a3⟩:=g;exact⟨st',JU (by omega) a c e i f,fl,j,l,m,by omega⟩
theorem nD{st:aB}{bG:Nat->List KV}{M k:Nat}(h:fK st bG M)(b:k<7)(key:List UInt8)(a:key∈(bG k).map (·.1)){N:Nat}(n:(bG k).length<=N)(o:M+(43+N)<=65536):∃st',oC st k key st'/\fK st' (kG bG k (lD key (bG k))) (M+(43+N)):=by obtain⟨st',e,f,p⟩:=G3 h b key a (by omega);obtain⟨fl,d,U,g,i,_⟩:=h.one b;obtain⟨c,j,l,m,a3⟩:=f;exact⟨st',JV (by omega) i g a e,c,j,l,m,by omega⟩
theorem iC{st:aB}{bG:Nat->List KV}{M k:Nat}(h:fK st bG M)(b:k<7):gF (bG k):=by obtain⟨fl,a,U,c,_,_⟩:=h.one b;exact c.rise
inductive Left (id:Nat):aB->Nat->List aX->aB->Prop
 |nil (st:aB) (no:Nat):Left id st no [] st
 |cons (st st':aB) (S:Nat->aB) (no:Nat) (f:aX) (r:List aX) (P0:oC st 1 (aP [(id:Int),(no:Int)]) (S 0)) (P:∀b,b<4->oC (S b) (3+b) (bh b f++aP [(id:Int),(no:Int)]) (S (b+1))) (hr:Left id (S 4) (no+1) r st'):Left id st no (f::r) st'
theorem tL{f:aX}(h:gH f.c=true):f.name.length<=40/\1<=f.name.length:=by unfold gH kR at h;simp only[Bool.and_eq_true,decide_eq_true_eq]at h;have a:=h.1.1.1.1.1.1;have b:=h.1.1.1.1.1.2;have e:(str f.c.name).size=f.name.length:=dV _;omega
theorem EI{f:aX}(h:gH f.c=true):(dx f).length<=64:=by have:=(tL h).1;unfold dx;simp only[aq,cU,length_cons,length_nil];omega
theorem xB{f:aX}(h:gH f.c=true)(b:Nat):(bh b f).length<=82:=by
 have g:=(tL h).1;have a:=eu [(f.size:Int)];have d:=eu [(f.gX:Int)];have e:=eu [(f.crc:Int)];have i:(bK [str f.name]).length<=2*f.name.length+2:=by rw[qC];exact pQ f.name
 simp only[length_cons,length_nil]at a d e;unfold bh;split
 ·omega
 ·split
  ·omega
  ·split<;>omega
theorem tM{f:aX}(h:gH f.c=true)(k id no:Nat):1<=(cO k id no f).1.length/\(cO k id no f).1.length<=120/\(cO k id no f).2.length<=64:=by
 have a:=EI h;have b:=xB h (k-3);have d:=lE (id:Int) (no:Int);unfold cO;split
 ·simp only[];omega
 ·simp only[aq,length_nil];omega
theorem tN(id no:Nat)(f:aX)(m:gH f.c=true):∀n,n<=4->∀(st:aB) (bG:Nat->List KV) (M N:Nat),fK st bG M->(∀k,3<=k->k<7->(bG k).length<=N)->M+4*(43+N)<=65536->∃(S:Nat->aB) (a:Nat->List KV),S 0=st/\(∀b,b<n->mn (S b) (3+b) (bh b f++aP [(id:Int),(no:Int)]) [] (S (b+1)))/\fK (S n) a (M+n*(43+N))/\∀k,a k=if 3<=k/\k<3+n then eP (cO k id no f).1 (cO k id no f).2 (bG k)else bG k
 |0,_,st,bG,M,N,i,l,o=>⟨λ_=>st,bG,rfl,λb p=>by omega,by simpa using i,λk=>by rw[if_neg (by omega)]⟩
 |n+1,w,st,bG,M,N,i,l,o=>by
  obtain⟨S,a,t,u,v,q⟩:=tN id no f m n (by omega) st bG M N i l o
  have r:a (3+n)=bG (3+n):=by rw[q,if_neg (by omega)]
  have s:cO (3+n) id no f=(bh n f++aP [(id:Int),(no:Int)],[]):=by unfold cO;rw[if_neg (by omega),Nat.add_sub_cancel_left]
  have d:=tM m (3+n) id no
  rw[s]at d
  have p:n*(43+N)+(43+N)<=4*(43+N):=by rw[<-succ_mul];exact mul_le_mul_right _ (by omega)
  obtain⟨st',p1,p2⟩:=nC v (k:=3+n) (by omega) _ _ d.1 d.2.1 d.2.2 (N:=N) (by rw[r];exact l _ (by omega) (by omega)) (by omega)
  refine⟨λj=>if j<=n then S j else st',kG a (3+n) (eP (bh n f++aP [(id:Int),(no:Int)]) [] (a (3+n))),by simp[t],λb p=>?_,?_,λk=>?_⟩
  ·dsimp only;rcases aA b n with g|g
   ·rw[if_pos (by omega),if_pos (by omega)];exact u b g
   ·obtain rfl:b=n:=by omega
    rw[if_pos (by omega),if_neg (by omega)];exact p1
  ·dsimp only;rw[if_neg (by omega)];rw[succ_mul,<-Nat.add_assoc];exact p2
  ·by_cases e:k=3+n
   ·subst e;rw[iT,if_pos (by omega),r,s]
   ·rw[fS _ _ e,q];by_cases g:3<=k/\k<3+n
    ·rw[if_pos g,if_pos (by omega)]
    ·rw[if_neg g,if_neg (by omega)]
def isRow(k:Nat):Prop:=k<7/\k≠0/\k≠2
def zN(id no:Nat)(a:List KV):Prop:=∀p∈a,∀j,no<=j->j<=281474976710655->xu p.1≠aP [(id:Int),(j:Int)]
theorem H2{id no k:Nat}{f:aX}{a:List KV}(h:zN id no a)(c:no<=281474976710655):(cO k id no f).1∉a.map (·.1):=λb=>by obtain⟨p,d,e⟩:=aM.1 b;exact h p d no (aa _) c (by rw[e];exact oy k id no f)
theorem qV(id:Nat)(hid:id<=281474976710655)(N:Nat):∀(d:List aX) (no:Nat) (st:aB) (bG:Nat->List KV) (M:Nat),fK st bG M->(∀f∈d,gH f.c=true)->no+d.length<=1000000->(∀k,isRow k->(bG k).length+d.length<=N/\zN id no (bG k))->M+5*d.length*(43+N)<=65536->∃(st':aB) (b:Nat->List KV),jq id st no d st'/\fK st' b (M+5*d.length*(43+N))/\b 0=bG 0/\b 2=bG 2/\∀k,isRow k->(b k).Perm (eV k id no d++bG k)
 |[],no,st,bG,M,t,_,_,_,_=>⟨st,bG,.nil st no,by simpa using t,rfl,rfl,λk _=>List.Perm.refl _⟩
 |f::m,no,st,bG,M,t,y,z,q,G=>by
  have r:=y f (.head _)
  rw[length_cons]at z G
  have A:M+5*(43+N)+5*m.length*(43+N)<=65536:=by have e:5*(m.length+1)*(43+N)=5*m.length*(43+N)+5*(43+N):=Lm _ _;omega
  have B:=q 1 ⟨by omega,by omega,by omega⟩
  have C:cO 1 id no f=(aP [(id:Int),(no:Int)],dx f):=by unfold cO;rw[if_pos rfl]
  have i:=tM r 1 id no
  rw[C]at i
  rw[length_cons]at B
  obtain⟨s0,p1,p2⟩:=nC t (k:=1) (by omega) _ _ i.1 i.2.1 i.2.2 (N:=N) (by omega) (by omega)
  have l:∀k,k≠1->kG bG 1 (eP (aP [(id:Int),(no:Int)]) (dx f) (bG 1)) k=bG k:=λk h=>fS _ _ h
  obtain⟨S,n,a0,H,K,a3⟩:=tN id no f r 4 (aa _) s0 _ (M+(43+N)) N p2 (λk Z L=>by rw[l k (by omega)];have O:=(q k ⟨L,by omega,by omega⟩).1;rw[length_cons]at O;omega) (by omega)
  have D:∀k,isRow k->n k=eP (cO k id no f).1 (cO k id no f).2 (bG k):=λk a=>by
   obtain⟨E,F,ab⟩:=a;rw[a3];by_cases e:k=1
   ·subst e;rw[if_neg (by omega),iT,C]
   ·rw[if_pos (by omega),l k e]
  have o:∀k,isRow k->(n k).Perm (cO k id no f::bG k):=λk a=>by rw[D k a];exact ow (H2 (q k a).2 (by omega))
  obtain⟨st',b,P,Q,T,U,V⟩:=qV id hid N m (no+1) (S 4) n (M+5*(43+N)) (by
   obtain⟨fl,u,v,w,W⟩:=K;exact⟨fl,u,v,w,by omega⟩) (λg X=>y g (.tail _ X)) (by omega) (λk a=>by
   obtain⟨E,F⟩:=q k a;have Y:=(o k a).length_eq;rw[length_cons]at Y E;refine⟨by omega,λp x j ac s=>?_⟩;rcases mem_cons.1 ((o k a).mem_iff.1 x)with rfl|x
   ·rw[oy];intro e;have:=(uZ hid (by omega) hid s e).2;omega
   ·exact F p x j (by omega) s) A
  refine⟨st',b,.cons st st' S no f m (by rw[a0];exact p1) H P,?_,?_,?_,λk a=>?_⟩
  ·obtain⟨fl,u,v,w,W⟩:=Q;refine⟨fl,u,v,w,?_⟩;rw[length_cons];have e:5*(m.length+1)*(43+N)=5*m.length*(43+N)+5*(43+N):=Lm _ _;omega
  ·rw[T,a3,if_neg (by omega),l 0 (by omega)]
  ·rw[U,a3,if_neg (by omega),l 2 (by omega)]
  ·rw[eV,cons_append];refine(V k a).trans ?_;refine(Perm.append_left _ (o k a)).trans ?_;exact perm_middle
theorem jO{st:aB}{bG:Nat->List KV}{M a:Nat}(h:fK st bG M)(e:M<=a):fK st bG a:=by obtain⟨fl,b,c,d,f⟩:=h;exact⟨fl,b,c,d,by omega⟩
theorem vr(id no:Nat)(f:aX):∀n,n<=4->∀(st:aB) (bG:Nat->List KV) (M N:Nat),fK st bG M->(∀k,3<=k->k<7->(bG k).length<=N/\cO k id no f∈bG k)->M+4*(43+N)<=65536->∃(S:Nat->aB) (a:Nat->List KV),S 0=st/\(∀b,b<n->oC (S b) (3+b) (bh b f++aP [(id:Int),(no:Int)]) (S (b+1)))/\fK (S n) a (M+n*(43+N))/\∀k,a k=if 3<=k/\k<3+n then lD (cO k id no f).1 (bG k)else bG k
 |0,_,st,bG,M,N,i,d,m=>⟨λ_=>st,bG,rfl,λb o=>by omega,by simpa using i,λk=>by rw[if_neg (by omega)]⟩
 |n+1,u,st,bG,M,N,i,d,m=>by
  obtain⟨S,a,r,s,t,p⟩:=vr id no f n (by omega) st bG M N i d m
  have l:a (3+n)=bG (3+n):=by rw[p,if_neg (by omega)]
  have q:cO (3+n) id no f=(bh n f++aP [(id:Int),(no:Int)],[]):=by unfold cO;rw[if_neg (by omega),Nat.add_sub_cancel_left]
  have g:=(d (3+n) (by omega) (by omega)).2
  rw[q,<-l]at g
  have o:n*(43+N)+(43+N)<=4*(43+N):=by rw[<-succ_mul];exact mul_le_mul_right _ (by omega)
  obtain⟨st',p1,p2⟩:=nD t (k:=3+n) (by omega) _ (aM.2 ⟨_,g,rfl⟩) (N:=N) (by rw[l];exact(d _ (by omega) (by omega)).1) (by omega)
  refine⟨λj=>if j<=n then S j else st',kG a (3+n) (lD (bh n f++aP [(id:Int),(no:Int)]) (a (3+n))),by simp[r],λb o=>?_,?_,λk=>?_⟩
  ·dsimp only;rcases aA b n with c|c
   ·rw[if_pos (by omega),if_pos (by omega)];exact s b c
   ·obtain rfl:b=n:=by omega
    rw[if_pos (by omega),if_neg (by omega)];exact p1
  ·dsimp only;rw[if_neg (by omega)];rw[succ_mul,<-Nat.add_assoc];exact p2
  ·by_cases e:k=3+n
   ·subst e;rw[iT,if_pos (by omega),l,q]
   ·rw[fS _ _ e,p];by_cases c:3<=k/\k<3+n
    ·rw[if_pos c,if_pos (by omega)]
    ·rw[if_neg c,if_neg (by omega)]
theorem tO{a:List KV}{p:KV}{l:List KV}(b:gF a)(h:a.Perm (p::l)):(lD p.1 a).Perm l:=by have c:(p.1,p.2)∈a:=h.mem_iff.2 (.head _);exact((BO b c).symm.trans h).cons_inv
theorem zO(id:Nat)(N:Nat):∀(l:List aX) (no:Nat) (st:aB) (bG:Nat->List KV) (M:Nat) (rest:Nat->List KV),fK st bG M->(∀k,isRow k->(bG k).length<=N/\(bG k).Perm (eV k id no l++rest k))->M+5*l.length*(43+N)<=65536->∃(st':aB) (b:Nat->List KV),Left id st no l st'/\fK st' b (M+5*l.length*(43+N))/\b 0=bG 0/\b 2=bG 2/\∀k,isRow k->(b k).Perm (rest k)
 |[],no,st,bG,M,rest,m,c,_=>⟨st,bG,.nil st no,by simpa using m,rfl,rfl,λk a=>(c k a).2⟩
 |f::j,no,st,bG,M,rest,m,c,t=>by
  rw[length_cons]at t
  have C:5*(j.length+1)*(43+N)=5*j.length*(43+N)+5*(43+N):=Lm _ _
  have q:M+5*(43+N)+5*j.length*(43+N)<=65536:=by omega
  have r:cO 1 id no f=(aP [(id:Int),(no:Int)],dx f):=by unfold cO;rw[if_pos rfl]
  have o:∀k,isRow k->cO k id no f∈bG k:=λk a=>(c k a).2.mem_iff.2 (by rw[eV];exact .head _)
  have r1:isRow 1:=⟨by omega,by omega,by omega⟩
  have g:=o 1 r1
  rw[r]at g
  obtain⟨s0,p1,p2⟩:=nD m (k:=1) (by omega) _ (aM.2 ⟨_,g,rfl⟩) (N:=N) (c 1 r1).1 (by omega)
  have d:∀k,k≠1->kG bG 1 (lD (aP [(id:Int),(no:Int)]) (bG 1)) k=bG k:=λk h=>fS _ _ h
  obtain⟨S,i,a0,u,v,a3⟩:=vr id no f 4 (aa _) s0 _ (M+(43+N)) N p2 (λk D n=>by rw[d k (by omega)];exact⟨(c k ⟨n,by omega,by omega⟩).1,o k ⟨n,by omega,by omega⟩⟩) (by omega)
  have s:∀k,isRow k->i k=lD (cO k id no f).1 (bG k):=λk a=>by
   obtain⟨E,F,G⟩:=a;rw[a3];by_cases e:k=1
   ·subst e;rw[if_neg (by omega),iT,r]
   ·rw[if_pos (by omega),d k e]
  have p:∀k,isRow k->(i k).Perm (eV k id (no+1) j++rest k):=λk a=>by
   rw[s k a];refine tO (iC m a.1) ?_;have w:=(c k a).2
   rwa [eV,cons_append]at w
  obtain⟨st',b,x,y,z,A,B⟩:=zO id N j (no+1) (S 4) i (M+5*(43+N)) rest (jO v (by omega)) (λk a=>by refine⟨?_,p k a⟩;have H:=(p k a).length_eq;have n:=(c k a).2.length_eq;rw[eV,cons_append,length_cons]at n;have:=(c k a).1;omega) q
  refine⟨st',b,.cons st st' S no f j (by rw[a0];exact p1) u x,?_,?_,?_,B⟩
  ·refine jO y ?_;rw[length_cons];omega
  ·rw[z,a3,if_neg (by omega),d 0 (by omega)]
  ·rw[A,a3,if_neg (by omega),d 2 (by omega)]
theorem nE(a:cC):(kz a).length=30:=by unfold kz;rw[cU];rfl
theorem EJ{p:List UInt8}(h:p.length<=24):1<=(bK [str p]).length/\(bK [str p]).length<=120:=by
 rw[qC];have a:=pQ p;have b:(df p).length=(p.flatMap iG).length+2:=by unfold df;rw[aq];rfl
 omega
theorem H5{st:aB}{bG:Nat->List KV}{M N:Nat}{bH:List cC}(h:fK st bG M)(d:jA bH bG)(a:cC)(n:a.ok)(hid:a.id∉bH.map (·.id))(E:a.path∉bH.map (·.path))(w:∀k,k<7->(bG k).length+a.files.length+1<=N)(Z:M+(5*a.files.length+2)*(43+N)<=65536):∃(bg dC ja:aB) (g:Nat->List KV),mn st 0 (bK [str a.path]) (kz a) bg/\mn bg 2 (aP [(a.id:Int)]) a.path dC/\jq a.id dC 0 a.files ja/\fK ja g (M+(5*a.files.length+2)*(43+N))/\jA (a::bH) g/\∀k,k<7->(g k).length<=N:=by
 have ab:(5*a.files.length+2)*(43+N)=5*a.files.length*(43+N)+2*(43+N):=Nat.add_mul _ _ _;have y:=EJ n.path.2;have W:=nE a;obtain⟨bg,p1,Q⟩:=nC h (k:=0) (by omega) (bK [str a.path]) (kz a) y.1 y.2 (by omega) (N:=N) (by have:=w 0 (by omega);omega) (by omega);have X:=nz (a.id:Int);have F:kG bG 0 (eP (bK [str a.path]) (kz a) (bG 0)) 2=bG 2:=fS _ _ (by omega);obtain⟨dC,p2,G⟩:=nC Q (k:=2) (by omega) (aP [(a.id:Int)]) a.path (by omega) (by omega) (by have:=n.path;omega) (N:=N) (by rw[F];have:=w 2 (by omega);omega) (by omega);obtain⟨v,m⟩:=I (kG (kG bG 0 (eP (bK [str a.path]) (kz a) (bG 0))) 2 (eP (aP [(a.id:Int)]) a.path (kG bG 0 (eP (bK [str a.path]) (kz a) (bG 0)) 2)));rw[<-m]at G;have s:∀k,isRow k->v k=bG k:=λk c=>by rw[m,fS _ _ c.2.2,fS _ _ c.2.1]
 have z:v 0=eP (bK [str a.path]) (kz a) (bG 0):=by rw[m,fS _ _ (by omega),iT]
 have A:v 2=eP (aP [(a.id:Int)]) a.path (bG 2):=by rw[m,iT,F]
 obtain⟨ja,g,S,T,H,K,L⟩:=qV a.id n.id.2 N a.files 0 dC v (M+2*(43+N)) (jO G (by omega)) (λf U=>(n.files f U).2) (by have:=n.many;omega) (λk c=>by rw[s k c];refine⟨by have:=w k c.1;omega,λp o j _ V e=>?_⟩;have t:=(d.perm k c.1).mem_iff.1 o;unfold rowsOf at t;rw[if_neg c.2.1,if_neg c.2.2,mem_flatMap]at t;obtain⟨b,l,O⟩:=t;obtain⟨i,f,P,rfl⟩:=(iB k b.id b.files 0 p).1 O;rw[oy]at e;have B:=d.ok b l;have ac:=(ay.1 P).1;have Y:=B.many;exact hid (aM.2 ⟨b,l,(uZ B.id.2 (by omega) n.id.2 V e).1⟩)) (by omega)
 refine⟨bg,dC,ja,g,p1,p2,S,jO T (by omega),⟨λk c=>?_,?_,?_,?_⟩,λk c=>?_⟩
 ·by_cases q:k=0
  ·subst q;rw[H,z];have u:bK [str a.path]∉(bG 0).map (·.1):=λx=>by obtain⟨p,o,e⟩:=aM.1 x;obtain⟨b,l,rfl⟩:=aM.1 ((d.perm 0 (by omega)).mem_iff.1 o);exact E (aM.2 ⟨b,l,ve e⟩)
   exact(ow u).trans ((d.perm 0 (by omega)).cons _)
  ·by_cases r:k=2
   ·subst r;rw[K,A];have u:aP [(a.id:Int)]∉(bG 2).map (·.1):=λx=>by obtain⟨p,o,e⟩:=aM.1 x;obtain⟨b,l,rfl⟩:=aM.1 ((d.perm 2 (by omega)).mem_iff.1 o);exact hid (aM.2 ⟨b,l,uY (d.ok b l).id.2 n.id.2 e⟩)
    exact(ow u).trans ((d.perm 2 (by omega)).cons _)
   ·have C:isRow k:=⟨c,q,r⟩;refine(L k C).trans ?_;rw[s k C];unfold rowsOf;rw[if_neg q,if_neg r,flatMap_cons];have t:=d.perm k c;unfold rowsOf at t;rw[if_neg q,if_neg r]at t;exact Perm.append_left _ t
 ·rw[map_cons];exact nodup_cons.2 ⟨hid,d.ids⟩
 ·rw[map_cons];exact nodup_cons.2 ⟨E,d.paths⟩
 ·intro b l;rcases mem_cons.1 l with rfl|l
  ·exact n
  ·exact d.ok b l
 ·by_cases q:k=0
  ·subst q;have D:=uH (bK [str a.path]) (kz a) (bG 0);have:=w 0 (by omega);rw[H,z];omega
  ·by_cases r:k=2
   ·subst r;have D:=uH (aP [(a.id:Int)]) a.path (bG 2);have:=w 2 (by omega);rw[K,A];omega
   ·have D:=(L k ⟨c,q,r⟩).length_eq;rw[aq,jN,s k ⟨c,q,r⟩]at D;have:=w k c;omega
theorem H6{st:aB}{bG:Nat->List KV}{M N:Nat}{bH:List cC}{a:cC}(h:fK st bG M)(e:jA (a::bH) bG)(i:∀k,k<7->(bG k).length<=N)(B:M+(5*a.files.length+2)*(43+N)<=65536):∃(bg dC ja:aB) (f:Nat->List KV),Left a.id st 0 a.files bg/\oC bg 2 (aP [(a.id:Int)]) dC/\oC dC 0 (bK [str a.path]) ja/\fK ja f (M+(5*a.files.length+2)*(43+N))/\jA bH f/\∀k,k<7->(f k).length<=N:=by
 have C:(5*a.files.length+2)*(43+N)=5*a.files.length*(43+N)+2*(43+N):=Nat.add_mul _ _ _;obtain⟨bg,c,w,j,p,q,x⟩:=zO a.id N a.files 0 st bG M (λk=>rowsOf bH k) h (λk d=>by refine⟨i k d.1,?_⟩;have l:=e.perm k d.1;unfold rowsOf at l;rw[if_neg d.2.1,if_neg d.2.2,flatMap_cons]at l;unfold rowsOf;rw[if_neg d.2.1,if_neg d.2.2];exact l) (by omega)
 have r:(c 2).Perm (lW a::bH.map lW):=by rw[q];exact e.perm 2 (by omega)
 have s:(c 0).Perm (fL a::bH.map fL):=by rw[p];exact e.perm 0 (by omega)
 obtain⟨dC,p2,y⟩:=nD j (k:=2) (by omega) (aP [(a.id:Int)]) (aM.2 ⟨lW a,r.mem_iff.2 (.head _),rfl⟩) (N:=N) (by rw[q];exact i 2 (by omega)) (by omega);have m:kG c 2 (lD (aP [(a.id:Int)]) (c 2)) 0=c 0:=fS _ _ (by omega);obtain⟨ja,z,t⟩:=nD y (k:=0) (by omega) (bK [str a.path]) (by rw[m];exact aM.2 ⟨fL a,s.mem_iff.2 (.head _),rfl⟩) (N:=N) (by rw[m,p];exact i 0 (by omega)) (by omega);rw[m]at t;have u:=iC j (k:=2) (by omega);have v:=iC j (k:=0) (by omega);have g:∀k,k<7->(kG (kG c 2 (lD (aP [(a.id:Int)]) (c 2))) 0 (lD (bK [str a.path]) (c 0)) k).Perm (rowsOf bH k):=λk d=>by
  by_cases n:k=0
  ·subst n;rw[iT];exact tO v s
  ·rw[fS _ _ n];by_cases o:k=2
   ·subst o;rw[iT];exact tO u r
   ·rw[fS _ _ o];exact x k ⟨d,n,o⟩
 refine⟨bg,dC,ja,_,w,p2,z,jO t (by omega),⟨g,?_,?_,λb A=>e.ok b (.tail _ A)⟩,λk d=>?_⟩
 ·have:=e.ids;rw[map_cons]at this;exact(nodup_cons.1 this).2
 ·have:=e.paths;rw[map_cons]at this;exact(nodup_cons.1 this).2
 ·rw[(g k d).length_eq];refine aO ?_ (i k d);rw[(e.perm k d).length_eq];unfold rowsOf;split
  ·simp
  ·split
   ·simp
   ·simp
structure fR (w0:World) (gc gp:Nat) (ts:Nat->Nat) (bH:List cC) (M N:Nat) (F:Nat->Prop) (w:World):Prop where
 st:∃st bG,ar w F gp st/\fK st bG M/\jA bH bG/\∀k,k<7->(bG k).length<=N
 at_:fD w F gc gp ts
 bl:Below w0.heap.size w0 w
 up:∀j,F j->w0.heap.size<=j
theorem fR.lt{a w:World}{gc b M N:Nat}{c:Nat->Nat}{bH:List cC}{F:Nat->Prop}(h:fR a gc b c bH M N F w):∀j,F j->j<w.heap.size:=by obtain⟨st,bG,d,_⟩:=h.st;exact d.lt
theorem fR.ev{f w w':World}{gc b M N:Nat}{g:Nat->Nat}{bH:List cC}{F c:Nat->Prop}(h:fR f gc b g bH M N F w)(d:Ev F w c w'){st:aB}{bG:Nat->List KV}{a:List cC}{i l:Nat}(m:ar w' c b st)(n:fK st bG i)(o:jA a bG)(p:∀k,k<7->(bG k).length<=l):fR f gc b g a i l c w':=
 ⟨⟨st,bG,m,n,o,p⟩,h.at_.ev d,h.bl.trans (R.below d.only h.up h.bl.size),λj q=>by
  rcases d.grow j q with e|e
  ·exact h.up j e
  ·exact aO h.bl.size e⟩
theorem fR.below{a w w':World}{gc b M N:Nat}{c:Nat->Nat}{bH:List cC}{F:Nat->Prop}(h:fR a gc b c bH M N F w)(d:Below w.heap.size w w'):fR a gc b c bH M N F w':=by obtain⟨st,bG,e,f,g,i⟩:=h.st;exact h.ev (Ev.ag d) (e.below d) f g i
theorem rS{st:aB}{bG:Nat->List KV}{M k:Nat}(h:fK st bG M)(j:k<7)(key:aF)(q:(bG k).length<=500000)(l:∀p∈bG k,p.2.length<=100000):∃L,sH st key [] (st.roots k:Int) L/\mh st L (jb key (bG k)):=by obtain⟨fl,i,U,e,m,_⟩:=h.one j;have a:=e.rise;obtain⟨L,P,O,b,f,rfl⟩:=e;have n:=f.len;obtain⟨r,d⟩:=f.filter (key:=key);rw[<-pj key a]at d;refine⟨L.filter (lC key),GL key b (by omega),d.Kr m.ok.free (λc o=>b.cells c (mem_filter.1 o).1) λp g=>l p ?_⟩;unfold jb at g;exact mem_of_mem_drop g
theorem pR{bH:List cC}{bG:Nat->List KV}(h:jA bH bG)(k:Nat)(e:k<7):∀p∈bG k,p.2.length<=64:=λp g=>by
 have b:=(h.perm k e).mem_iff.1 g;unfold rowsOf at b;split at b
 ·obtain⟨a,c,rfl⟩:=aM.1 b;have:=nE a;show(kz a).length<=64;omega
 ·split at b
  ·obtain⟨a,c,rfl⟩:=aM.1 b;have:=(h.ok a c).path.2;show a.path.length<=64;omega
  ·obtain⟨a,c,d⟩:=mem_flatMap.1 b;obtain⟨j,f,i,rfl⟩:=(iB k a.id a.files 0 p).1 d;exact(tM ((h.ok a c).files f (bu i)).2 k a.id _).2.2
end
section
open Go.RowKit Go.Maps
def oD(b d:Nat)(f:KV->List Value)(F:Nat->Prop)(w:World)(g:Nat)(st:aB)(l:List KV)(e:Ending)(w':World):Prop:=∃A c,e=.returned (.tuple #[.slice A l.length c,.int .i64 0])/\∃a,ar w' a g st/\Ev F w a w'/\w'.ownsRow 0 b d (.slice A l.length c) l.length (l.flatMap f)/\∀k,(Value.slice A l.length c).ownBlock=some k->¬a k
theorem nF:∀l:List KV,l.takeWhile (bW [])=l
 |[]=>rfl
 |q::l=>by
  have h:bW [] q=true:=rfl
  rw[takeWhile_cons,if_pos h,nF l]
theorem EK(g:Nat):sJ 72 #[.pointer (some ⟨g,0,none⟩)] (λq=>∃a:cC,a.ok/\q=fL a) (HQ 94 54 6 lG [] g):=
 zI 94 54 6 lG [] g 72 _ _ EH ⟨by decide,by decide⟩ ⟨by decide,by decide⟩ (λx k=>by cases k) λw v m xs key b l n o p r s _ t d u y C z mk A=>by
  obtain⟨a,f,e⟩:=d;have i:key=(fL a).1:=congrArg Prod.fst e;have j:b=(fL a).2:=congrArg Prod.snd e;have B:lG (key,b)=cQ a:=by rw[e];exact zJ f
  rw[B];have c:b.length=30:=by rw[j];exact nE a
  exact BV w g v m xs r s t l n key.length o b.length p a f (by rw[i]) c (by rw[<-i];exact u) (by rw[<-j];exact y) z A
theorem EL(w:World)(F:Nat->Prop)(gc m:Nat)(D:Nat->Nat)(st:aB)(h:ar w F m st)(G:fD w F gc m D)(L:List ai) (d:List KV) (V:sH st [] [] (st.roots 0:Int) L) (W:mh st L d) (H:∀q,q∈d->∃a:cC,a.ok/\q=fL a) (u:d.length<=900000):Calls Tryz.prog 33 #[.pointer (some ⟨gc,0,none⟩)] w (oD 54 6 lG F w m st d):=by
 obtain⟨g,E⟩:=I (w.heap.size);obtain⟨n,b⟩:=I (w.alloc (.cells #[.slice none 0 0] 94));have y:ah n g 94 #[.slice none 0 0]:=nB w _ _ g n E b;have p:Ev F w F n:=by rw[b];exact(Ev.refl F w).az _
 have z:ar n F m st:=by rw[b];exact h.alloc _
 have f:=G.ev p;have B:¬F g:=λl=>by have:=h.lt _ l;omega
 have C:aL n (FC F (λj=>j=g)) (D 0) m 0:=⟨(f.tree 0 (by omega)).blk,λl=>l.elim (f.tree 0 (by omega)).o (λe=>by have an:D 0=g:=e;have:=ah.lt (G.tree 0 (by omega)).blk;omega)⟩
 have K:=J (mH 72 #[.pointer (some ⟨g,0,none⟩)] (HQ 94 54 6 lG [] g) _ (EK g) n F (λj=>j=g) (D 0) m 0 st z C (by omega) [] [] none none 0 0 (MB.nil _) (by simp) (MB.nil _) ⟨_,y,⟨rfl,.inl ⟨rfl,rfl⟩⟩,(λx l=>by cases l),rfl,(λx l=>by cases l),(λk M=>by simp[Value.ownBlock]at M),λk M=>.inl M⟩ (λj Z l=>B (by rw[<-Z];exact l)) L d V W H u);rw[nF]at K;have ab:n.cell? ⟨gc,1,none⟩=some (.pointer (some ⟨D 0,0,none⟩)):=f.blk.cell 1;have N:Hid (∀s O P r,ar r s m st->HQ 94 54 6 lG [] g d P r->(∀k,P k->O k/\¬s k)->Ev (FC F (λj=>j=g)) n (FC s O) r->∃A c,r.cell? ⟨g,0,none⟩=some (.slice A d.length c)/\oD 54 6 lG F w m st d (.returned (.tuple #[.slice A d.length c,.int .i64 0])) r):=J λs O P r ac ad ae af=>by obtain⟨v,al,Y,_,z3,_,z5,_⟩:=ad;obtain⟨A,c,rfl⟩:=aE Y;exact⟨A,c,al.cell 0,A,c,rfl,s,ac,rR E p af,Y,λk M=>(ae k (z5 k M)).2⟩
 obtain⟨ao,i⟩:=I (d.length);have am:(w.alloc (.cells #[.slice none 0 0] 94)).cell? ⟨gc,1,none⟩=some (.pointer (some ⟨D 0,0,none⟩)):=by rw[<-b];exact ab
 refine gI ?_ h G y p z f B C E V W;clear h G y p z f B C E V W;intro h G y p z f B C E V W;replace H:Hid _:=J H;refine bf ?_ u i b;clear u i b;intro u i b;go_enter Tryz.func33,Tryz.ntmps33;go_upto_region 4 with(fail)
 rw[<-b.o,<-E.o];go_wp2_with fail;go_at_call 29;refine K.o.mono ?_;rintro e r ⟨rfl,s,O,P,Q,S,T,U⟩;obtain⟨A,c,z0,t⟩:=N.o s O P r Q S T U;rw[<-i.o]at z0;have X:=i.o;replace t:Hid _:=J t;replace Q:=J Q;replace S:Hid _:=J S;replace T:=J T;replace U:=J U;clear K N X;go_wp2_with fail
 go_ret2
 rw[i.o];exact t.o
def fw(a:List UInt8)(no:Nat)(f:aX):List Value:=[.string (str a),.int .i64 (no:Int),.string (str f.name),.int .i64 (f.cI:Int),.int .i64 (f.gX:Int),.int .u32 (f.crc:Int),.int .i64 (f.bR:Int),.int .i64 (f.size:Int),.int .i64 (f.at_:Int)]
def Ln(q:KV)(o k:Nat):Nat:=fH ((q.2.drop o).take k)
def fileOf(q:KV):aX:=⟨q.2.drop 23,Ln q 0 1,Ln q 1 4,Ln q 5 4,Ln q 9 4,Ln q 17 6,Ln q 13 4⟩
def mi(a:List UInt8)(q:KV):List Value:=fw a (val (q.1.drop 6)) (fileOf q)
theorem vC{f:aX}(h:f.ok)(a:gH f.c=true):f.small:=by have d:=tL a;have b:=h.crc;unfold gH xL aX.c at a;simp at a;obtain⟨⟨⟨_,e⟩,g,i,j⟩,k⟩:=a;refine⟨by omega,by omega,b,by omega,by omega,by omega,by omega⟩
theorem zP{f:aX}(h:f.small)(k:aF):fileOf (k,dx f)=f:=by unfold fileOf Ln;rw[show((k,dx f):KV).2=dx f from rfl,CU f h.cI,CV f h.size,sV];have a:=pH f 0 f.gX rfl h.gX;have b:=pH f 1 f.crc rfl h.crc;have c:=pH f 2 f.bR rfl h.bR;have d:=pH f 3 f.at_ rfl h.at_;rw[Nat.mul_zero,Nat.add_zero]at a;rw[a,show(5:Nat)=1+4*1 from rfl,b,show(9:Nat)=1+4*2 from rfl,c,show(13:Nat)=1+4*3 from rfl,d]
theorem zQ{f:aX}(h:f.small)(a:List UInt8)(id no:Nat)(b:no<=281474976710655):mi a (cO 1 id no f)=fw a no f:=by
 have e:cO 1 id no f=(aP [(id:Int),(no:Int)],dx f):=by unfold cO;rw[if_pos rfl]
 unfold mi;rw[e,zP h,show((aP [(id:Int),(no:Int)],dx f):KV).1=aP [(id:Int),(no:Int)]from rfl,uW,drop_left' (ky _),pM no b,iU _ (by omega) (by omega)];rfl
theorem H7:(Tryz.prog.info? 61).map (λi=>(i.zero,i.size,i.bytes))=some (some (.agg #[.string ⟨#[]⟩,.int .i64 0,.string ⟨#[]⟩,.int .i64 0,.int .i64 0,.int .u32 0,.int .i64 0,.int .i64 0,.int .i64 0]),9,88):=by kernel_rfl
theorem zR(w:World)(base:Nat)(v:Value)(m:Nat)(xs:List Value)(i:w.ownsRow base 61 9 v m xs)(g:Nat)(a:List UInt8)(no:Nat)(f:aX)(k:ah w g 61 (fw a no f).toArray)(ty:TypeId)(r:m+1<=1000000)(b:base<=w.heap.size):∃c w',(Builtin.append_ #[51,51] ty #[v,.slice (some ⟨g,0,none⟩) 1 1]).run Tryz.prog w=.ok c w'/\w'.ownsRow base 61 9 c (m+1) (xs++fw a no f)/\w.grownBy w' v.ownBlock/\(c.ownBlock=v.ownBlock\/c.ownBlock=some w.heap.size):=by
 obtain⟨i0,l,n,o,p⟩:=info_parts H7;exact bN (P:=Tryz.prog) w base 51 ty 61 i0 _ 9 88 Tryz.underlying51 l n o p rfl (by omega) v m xs i w.heap.size (some ⟨g,0,none⟩) 1 1 (fw a no f) ⟨rfl,λ_=>⟨_,rfl,k.lt,λj u d=>by
  have e:(Addr.mk g 0 none).add j=⟨g,j,none⟩:=by
   unfold Addr.add;by_cases q:j=0
   ·subst q;rfl
   ·rw[if_neg q];simp
  rw[e,k.cell];simpa using d⟩⟩ (by intro u d;simp[fw]at d;rcases d with rfl|rfl|rfl|rfl|rfl|rfl|rfl|rfl|rfl<;>rfl) (by simp only[maxLen];omega) (by omega) b
theorem H8:∀args a,(callFunc 40 args).run Tryz.prog a=.ok (.enter 40 args) a:=λargs a=>by have h:=Tryz.func40;simp[callFunc,Sem.run_bind,go_sem,h,Tryz.f40]
theorem EM(w:World)(g T U:Nat)(v:Value)(m:Nat)(xs:List Value)(s:ah w g 51 #[v]) (c:w.ownsRow 0 61 9 v m xs) (ap:m<=900000) (ab:Option Addr) (N:Nat) (x:ah w T 23 #[.slice ab 6 N]) (a:cC) (q:ah w U 54 (cQ a).toArray)(V W:Option Addr) (n H K X id no:Nat) (f:aX) (L:f.small) (y:no<=281474976710655) (a0:n=12) (B:RB w w.heap.size V n (aP [(id:Int),(no:Int)])) (z:RB w w.heap.size W K (dx f)) (O:n<=H) (C:H<=maxLen) (P:K<=X):Calls Tryz.prog 40 #[.slice V n H,.slice W K X,.pointer (some ⟨T,0,none⟩),.pointer (some ⟨g,0,none⟩),.pointer (some ⟨U,0,none⟩)] w (oz 51 61 9 w g v m xs (fw a.path no f)):=by
 subst a0;have D:=J (lX V 12 H 6 _ [] (jw (dm (no:Int))) w B (by omega) O C (by omega) (by rw[uW,drop_left' (ky _),append_nil]) (ky _));rw[pM no y,iU _ (by omega) (by omega),show(no:Int).toNat=no from by simp]at D;have Q:=J (BD w W K X f L z P);have t:Hid (∀j,Below w.heap.size w j->∃E c5 b,(Builtin.append_ #[51,51] 51 #[v,.slice (some ⟨j.heap.size+1,0,none⟩) 1 1]).run Tryz.prog ((j.alloc (.cells (gG f) 49)).alloc (.cells (fw a.path no f).toArray 61))=.ok (.slice E (m+1) c5) b/\b.cell? ⟨g,0,none⟩=some v/\b.frozen? ⟨g,0,none⟩=false/\oz 51 61 9 w g v m xs (fw a.path no f) (.returned (.int .i64 0)) (b.setCell ⟨g,0,none⟩ (.slice E (m+1) c5))):=J λj F=>by
  have G:R (λ_=>False) w ((j.alloc (.cells (gG f) 49)).alloc (.cells (fw a.path no f).toArray 61)):=((R.ag F).alloc _).alloc _;have Y:=G.row c (λ_ _ h=>h);have ac:=cT j (.cells (gG f) 49) 61 (fw a.path no f).toArray;obtain⟨v5,b,u,l,S,ad⟩:=zR _ 0 _ m xs Y (j.heap.size+1) a.path no f ac 51 (by omega) (zero_le _);have ae:some g≠v.ownBlock:=λe=>au c s (by decide) e.symm;have af:ah ((j.alloc (.cells (gG f) 49)).alloc (.cells (fw a.path no f).toArray 61)) g 51 #[v]:=G.blk s (λh=>h);have A:ah b g 51 #[v]:=af.grown S ae;have al:R (λk=>k=g\/v.ownBlock=some k) w b:=(G.mono λk _ h=>h.elim).grown S (λk B _=>.inr B);have am:R (λk=>k=g\/v.ownBlock=some k) w (b.setCell ⟨g,0,none⟩ v5):=al.setCell (p:=⟨g,0,none⟩) (λ_=>.inl rfl) v5;have an:R (λk=>k=g) b (b.setCell ⟨g,0,none⟩ v5):=(R.refl (λk=>k=g) b).setCell (p:=⟨g,0,none⟩) (λ_=>rfl) v5;have d:oz 51 61 9 w g v m xs (fw a.path no f) (.returned (.int .i64 0)) (b.setCell ⟨g,0,none⟩ v5):=by
   refine⟨rfl,v5,A.aK 0 v5,an.row l (aI l A (by decide)),am,?_⟩;rcases ad with e|e
   ·exact .inl e
   ·exact .inr ⟨_,e,by have:=F.size;simp;omega⟩
  obtain⟨E,c5,rfl⟩:=aE l;exact⟨E,c5,b,u,A.cell 0,A.frozen 0,d⟩
 have Z:Hid (∀M,Below w.heap.size w M->M.cell? ⟨g,0,none⟩=some v/\M.cell? ⟨U,0,none⟩=some (.string (str a.path))):=J λM F=>⟨(s.below F s.lt).cell 0,(q.below F q.lt).cell 0⟩;have a8:w.cell? ⟨T,0,none⟩=some (.slice ab 6 N):=x.cell 0;obtain⟨a9,ba,rfl⟩:=aE c;obtain⟨a1,i⟩:=I (a.path);rw[<-i]at t Z⊢;refine ik ?_ s q x c B z i L y;clear s q x c B z i L y;intro s q x c B z i L y;obtain⟨a2,a3,a4,a5,a6,a7,at_⟩:=f;simp only[fw,gG]at *;clear P O C ap;go_enter Tryz.func40,Tryz.ntmps40;go_wp2_with fail;go_at_call 31;refine D.o.mono ?_;rintro e j ⟨rfl,rfl⟩;go_wp2_with fail;go_at_call 41;refine Q.o.mono ?_;rintro e ao ⟨rfl,r⟩;obtain⟨E,c5,b,u,z5,f5,d⟩:=t.o ao r;have z3:=Z.o (ao.alloc (.cells #[.string (str a2),.int .i64 (a3:Int),.int .i64 (a4:Int),.int .u32 (a5:Int),.int .i64 (a6:Int),.int .i64 (a7:Int),.int .i64 (at_:Int)] 49)) (r.alloc r.size _);obtain⟨z3,z4⟩:=z3;replace d:Hid _:=J d;replace r:=J r;clear D Q Z t;go_wp2_with(at_builtin;refine Lib.wpList_append_run _ rfl (.tmp 26) (.tmp 32) 51 51 rfl _ _ rfl rfl _ _ u ?_);first|exact d.o|(go_ret;exact d.o)
end
section
open Go.RowKit
theorem EN(w:World)(F:Nat->Prop)(gc L:Nat)(H:Nat->Nat)(bv:aB)(S:Nat->aB)(h:ar w F L bv)(ce:fD w F gc L H)(bx:iF w)(b4:¬F 2)(f:aX)(be:f.ok)(id no:Nat)(a5:List UInt8)(b5:oC bv 1 (aP [(id:Int),(no:Int)]) (S 0)) (P:∀b,b<4->oC (S b) (3+b) (bh b f++aP [(id:Int),(no:Int)]) (S (b+1))) (ao:∀b,b<4->(bh b f).length<=100000):Calls Tryz.prog 42 #[.pointer (some ⟨gc,0,none⟩),.int .i64 (id:Int),.agg (fw a5 no f).toArray] w (cG F w L (S 4) (.int .i64 0)):=by
 obtain⟨u,x,y,z,A,B,at_⟩:=f;simp only[fw]at *;obtain⟨g,b6⟩:=I (w.heap.size);obtain⟨K,an⟩:=I (w.alloc (.cells #[.string (str a5),.int .i64 (no:Int),.string (str u),.int .i64 (x:Int),.int .i64 (y:Int),.int .u32 (z:Int),.int .i64 (A:Int),.int .i64 (B:Int),.int .i64 (at_:Int)] 61));have a6:=h.lt;have ba:¬F g:=λcB=>by have:=a6 _ cB;omega
 have ap:ah K g 61 #[.string (str a5),.int .i64 (no:Int),.string (str u),.int .i64 (x:Int),.int .i64 (y:Int),.int .u32 (z:Int),.int .i64 (A:Int),.int .i64 (B:Int),.int .i64 (at_:Int)]:=by rw[an,b6];exact ah.new w 61 _
 have bb:Ev F w F K:=by rw[an];exact(Ev.refl F w).az _
 have bA:Below w.heap.size w K:=by rw[an];exact(Below.refl _ w).alloc (aa _) _
 have bc:ar K F L bv:=by rw[an];exact h.alloc _
 have a0:=ce.ev bb;have a7:=bx.below bA;have cw:K.cell? ⟨gc,2,none⟩=some (.pointer (some ⟨H 1,0,none⟩)):=a0.blk.cell 2;have b3:=ap.cell 1;have cf:=J bc.lt;have cn:Hid (∀w' l,Ev F K l w'->w'.cell? ⟨gc,2,none⟩=some (.pointer (some ⟨H 1,0,none⟩))/\w'.cell? ⟨g,1,none⟩=some (.int .i64 (no:Int))):=J λW l af=>by have q:=(a0.ev af).blk;have C:=af.blk ap ba;exact⟨q.cell 2,C.cell 1⟩
 have b7:=J (eu _:(aP [(id:Int),(no:Int)]).length=12);obtain⟨cp,al⟩:=I (aP [(id:Int),(no:Int)]);rw[<-al]at b5 P b7;refine aR ?_ h ce bx be an b6 ap bb bc a0 a7 bA a6;clear h ce bx be an b6 ap bb bc a0 a7 bA a6;intro h ce bx be an b6 ap bb bc a0 a7 bA a6;replace ba:=J ba;replace b4:=J b4;have P0':Hid (∀(w:World) (F:Nat->Prop) (gt L:Nat) (b8:Option Addr) (cr:Nat),ar w F L bv->aL w F gt L 1->MB F w b8 12 cp->
  Calls Tryz.prog 43 #[.pointer (some ⟨gt,0,none⟩),.slice b8 12 cr] w (cG F w L (S 0) (.tuple #[.bool true,.int .i64 0]))):=J (by
  have q:=b5;unfold oC at q;rw[b7.o]at q;exact q)
 have a8:Hid (∀b,b<4->∃am,am=bh b ⟨u,x,y,z,A,B,at_⟩++cp/\oC (S b) (3+b) am (S (b+1))):=J λb cD=>⟨_,rfl,P b cD⟩;refine bz ?_ b5 P ao al;clear b5 P ao al;intro b5 P ao al;go_enter Tryz.func42,Tryz.ntmps42;go_upto_region 1 with(fail)
 rw[<-an.o,<-b6.o];go_region_held3 (λw'=>w'.cell? ⟨gc,2,none⟩=some (.pointer (some ⟨H 1,0,none⟩))/\w'.cell? ⟨g,1,none⟩=some (.int .i64 (no:Int))) (first|exact⟨cw,b3⟩|(exact cn.o _ _ bi.o)|(exact cn.o _ F (Ev.ag (by with_reducible first|exact c.o)))|go_keep) (first
  |(go_at_call 25;refine(eC _ none 0 0 _ [] 3 [(id:Int),(no:Int)] #[.int .i64 (id:Int),.int .i64 (no:Int)] (RB.nil _ _) (by with_reducible first|exact(ah.new _ _ _).drew|exact ah.new _ _ _) rfl (by omega) (by simp)).mono ?_;rintro e cx ⟨cK,rfl,bd,b9⟩;rw[nil_append,<-al.o,b7.o]at bd;have c:Hid (Below K.heap.size K cx):=J (Below.trans (by with_reducible first|exact((Below.refl _ K).alloc (aa _) _).drew|exact(Below.refl _ K).drew) (b9.mono (by simp<;>omega)));obtain⟨b8,cr,rfl,_,_,cE,_⟩:=bd.form;have O:=J (MB.made bd (λk a9=>by have:=cf.o k a9;simp<;>omega):MB F cx b8 12 cp);replace bd:=J bd;replace b9:=J b9)
  |(go_at_call 43;refine(P0'.o _ F (H 1) L b8 cr (by with_reducible first|exact bc.o.below c.o) (by with_reducible first|exact(a0.o.tree 1 (by omega)).ev (Ev.ag c.o)) (by with_reducible first|exact O.o)).mono ?_;rintro e cs ⟨rfl,cy,bB,b0⟩;have bi:Hid (Ev F K cy cs):=J (by with_reducible first|exact(Ev.ag c.o).trans b0);replace bB:=J bB;replace b0:=J b0))
 all_goals
  go_wp2_with fail;have ca:Hid (∃l,ar cs l L (S 0)/\Ev F K l cs):=J ⟨cy,bB.o,bi.o⟩;clear bi bB b0;go_loopw [29] (λv cz=>∃b:Nat,b<=4/\v=.int .i64 (b:Int)/\Hid (∃l,ar cz l L (S b)/\Ev F K l cz)) (λv _=>4-(intOf v).toNat)
  case atStart=>exact⟨0,by omega,rfl,ca⟩
  case round=>
   obtain⟨b,a4,rfl,cA⟩:=hrel;obtain⟨G,M,N⟩:=cA.o;clear ca cA;rcases aA b 4 with co|cH
   ·have U:=J (a0.o.ev N);have V:=J (N.blk ap.o ba.o:ah wr g 61 #[.string (str a5),.int .i64 (no:Int),.string (str u),.int .i64 (x:Int),.int .i64 (y:Int),.int .u32 (z:Int),.int .i64 (A:Int),.int .i64 (B:Int),.int .i64 (at_:Int)]);have b1:=J (N.new ba.o ap.o.lt:¬G g);have b2:=J (a7.o.ev N b4.o:iF wr);have b3:=V.o.cell 1;have cg:=V.o.cell 2;have ch:=V.o.cell 3;have ci:=V.o.cell 4;have c5:=V.o.cell 5;have cj:=V.o.cell 6;have ck:=V.o.cell 7;have cl:=V.o.cell 8;replace M:=J M;replace N:=J N;have Y:=co;clear co cw
    match b,a4,Y with
    |0,a4,Y=>
     obtain⟨am,p,m⟩:=a8.o 0 (by omega)
     obtain⟨Z,d⟩:=I (bh 0 ⟨u,x,y,z,A,B,at_⟩)
     have a1:=J (by rw[d];exact ao.o 0 (by omega):Z.length<=100000)
     rw[<-d]at p
     have ab:Hid (∀W,Below wr.heap.size wr W->Calls Tryz.prog 36 #[.int .i64 0,.agg #[.string (str u),.int .i64 (x:Int),.int .i64 (y:Int),.int .u32 (z:Int),.int .i64 (A:Int),.int .i64 (B:Int),.int .i64 (at_:Int)]] W (dH W (bh 0 ⟨u,x,y,z,A,B,at_⟩))):=J λW bj=>gD W ⟨u,x,y,z,A,B,at_⟩ be.o (b2.o.below bj) 0 (by omega)
     have bl:wr.cell? ⟨gc,4,none⟩=some (.pointer (some ⟨H 3,0,none⟩)):=U.o.blk.cell 4
     have X:Hid (∀w' l,Ev G wr l w'->w'.cell? ⟨gc,4,none⟩=some (.pointer (some ⟨H 3,0,none⟩))/\w'.cell? ⟨g,1,none⟩=some (.int .i64 (no:Int))/\w'.cell? ⟨g,2,none⟩=some (.string (str u))/\w'.cell? ⟨g,3,none⟩=some (.int .i64 (x:Int))/\w'.cell? ⟨g,4,none⟩=some (.int .i64 (y:Int))/\w'.cell? ⟨g,5,none⟩=some (.int .u32 (z:Int))/\w'.cell? ⟨g,6,none⟩=some (.int .i64 (A:Int))/\w'.cell? ⟨g,7,none⟩=some (.int .i64 (B:Int))/\w'.cell? ⟨g,8,none⟩=some (.int .i64 (at_:Int))):=J λW l af=>by have q:=(U.o.ev af).blk;have C:=af.blk V.o b1.o;exact⟨q.cell 4,C.cell 1,C.cell 2,C.cell 3,C.cell 4,C.cell 5,C.cell 6,C.cell 7,C.cell 8⟩
     replace m:=J m
     replace p:=J p
     replace d:=J d
     have cb:IntKind.i64.wrap 3=3:=by decide
     go_wp2_with fail
     go_upto_region 7 with(fail)
     go_region_held3 (λw'=>w'.cell? ⟨gc,4,none⟩=some (.pointer (some ⟨H 3,0,none⟩))/\w'.cell? ⟨g,1,none⟩=some (.int .i64 (no:Int))/\w'.cell? ⟨g,2,none⟩=some (.string (str u))/\w'.cell? ⟨g,3,none⟩=some (.int .i64 (x:Int))/\w'.cell? ⟨g,4,none⟩=some (.int .i64 (y:Int))/\w'.cell? ⟨g,5,none⟩=some (.int .u32 (z:Int))/\w'.cell? ⟨g,6,none⟩=some (.int .i64 (A:Int))/\w'.cell? ⟨g,7,none⟩=some (.int .i64 (B:Int))/\w'.cell? ⟨g,8,none⟩=some (.int .i64 (at_:Int))) (first|exact⟨bl,b3,cg,ch,ci,c5,cj,ck,cl⟩|(exact X.o _ G (Ev.ag (by with_reducible first|exact c.o|exact a.o|exact a.o.alloc a.o.size _)))|(exact X.o _ _ ac.o)|go_keep) (first
      |(go_at_call 36;refine(ab.o _ (by with_reducible first|exact(Below.refl _ wr).drew|exact((Below.refl _ wr).alloc (aa _) _).drew)).mono ?_;rintro e bm ⟨ct,rfl,r,s⟩;rw[<-d.o]at r;have a:Hid (Below wr.heap.size wr bm):=J (Below.trans (by with_reducible first|exact(Below.refl _ wr).drew|exact((Below.refl _ wr).alloc (aa _) _).drew) (s.mono (by simp<;>omega)));obtain⟨bp,br,rfl,i,_,_,_⟩:=r.form;replace r:=J r;replace s:=J s;replace i:=J i)
      |(go_at_call 25;refine(eC _ bp Z.length br _ Z 3 [(id:Int),(no:Int)] #[.int .i64 (id:Int),.int .i64 (no:Int)] (by with_reducible first|exact i.o|exact ew i.o _|exact cJ i.o _) (by with_reducible first|exact ah.new _ _ _|exact(ah.new _ _ _).drew|exact(ah.new _ _ _).drew.below s.o (by simp<;>omega)) rfl a1.o (by simp)).mono ?_;rintro e a2 ⟨cv,rfl,j,D⟩;rw[<-al.o,<-p.o]at j;have c:Hid (Below wr.heap.size wr a2):=J (Below.trans (by with_reducible first|exact a.o|exact a.o.alloc a.o.size _) (D.mono (by have:=a.o.size;simp<;>omega)));obtain⟨a3,bs,rfl,_,_,cc,_⟩:=j.form;have O:=J (MB.made j (λk a9=>by have:=M.o.lt k a9;have:=a.o.size;simp<;>omega):MB G a2 a3 am.length am);replace j:=J j;replace D:=J D)
      |(go_at_call 43;refine(m.o _ G (H 3) L a3 bs (by with_reducible first|exact M.o.below c.o) (by with_reducible first|exact(U.o.tree 3 (by omega)).ev (Ev.ag c.o)) (by with_reducible first|exact O.o)).mono ?_;rintro e Q ⟨rfl,ad,E,t⟩;have ae:=J (N.o.trans ((Ev.ag c.o).trans t):Ev F K ad Q);have ac:=J ((Ev.ag c.o).trans t:Ev G wr ad Q);replace E:=J E;replace t:=J t))
     all_goals
      have T:Hid (∃l,ar Q l L (S (0+1))/\Ev F K l Q):=J ⟨ad,E.o,ae.o⟩;go_wp2_with fail;go_roundw
      case rel=>exact⟨0+1,by omega,rfl,T⟩
      case measure=>simp[intOf]
    |1,a4,Y=>
     obtain⟨am,p,m⟩:=a8.o 1 (by omega)
     obtain⟨Z,d⟩:=I (bh 1 ⟨u,x,y,z,A,B,at_⟩)
     have a1:=J (by rw[d];exact ao.o 1 (by omega):Z.length<=100000)
     rw[<-d]at p
     have ab:Hid (∀W,Below wr.heap.size wr W->Calls Tryz.prog 36 #[.int .i64 1,.agg #[.string (str u),.int .i64 (x:Int),.int .i64 (y:Int),.int .u32 (z:Int),.int .i64 (A:Int),.int .i64 (B:Int),.int .i64 (at_:Int)]] W (dH W (bh 1 ⟨u,x,y,z,A,B,at_⟩))):=J λW bj=>gD W ⟨u,x,y,z,A,B,at_⟩ be.o (b2.o.below bj) 1 (by omega)
     have bl:wr.cell? ⟨gc,5,none⟩=some (.pointer (some ⟨H 4,0,none⟩)):=U.o.blk.cell 5
     have X:Hid (∀w' l,Ev G wr l w'->w'.cell? ⟨gc,5,none⟩=some (.pointer (some ⟨H 4,0,none⟩))/\w'.cell? ⟨g,1,none⟩=some (.int .i64 (no:Int))/\w'.cell? ⟨g,2,none⟩=some (.string (str u))/\w'.cell? ⟨g,3,none⟩=some (.int .i64 (x:Int))/\w'.cell? ⟨g,4,none⟩=some (.int .i64 (y:Int))/\w'.cell? ⟨g,5,none⟩=some (.int .u32 (z:Int))/\w'.cell? ⟨g,6,none⟩=some (.int .i64 (A:Int))/\w'.cell? ⟨g,7,none⟩=some (.int .i64 (B:Int))/\w'.cell? ⟨g,8,none⟩=some (.int .i64 (at_:Int))):=J λW l af=>by have q:=(U.o.ev af).blk;have C:=af.blk V.o b1.o;exact⟨q.cell 5,C.cell 1,C.cell 2,C.cell 3,C.cell 4,C.cell 5,C.cell 6,C.cell 7,C.cell 8⟩
     replace m:=J m
     replace p:=J p
     replace d:=J d
     have cb:IntKind.i64.wrap 4=4:=by decide
     go_wp2_with fail
     go_upto_region 7 with(fail)
     go_region_held3 (λw'=>w'.cell? ⟨gc,5,none⟩=some (.pointer (some ⟨H 4,0,none⟩))/\w'.cell? ⟨g,1,none⟩=some (.int .i64 (no:Int))/\w'.cell? ⟨g,2,none⟩=some (.string (str u))/\w'.cell? ⟨g,3,none⟩=some (.int .i64 (x:Int))/\w'.cell? ⟨g,4,none⟩=some (.int .i64 (y:Int))/\w'.cell? ⟨g,5,none⟩=some (.int .u32 (z:Int))/\w'.cell? ⟨g,6,none⟩=some (.int .i64 (A:Int))/\w'.cell? ⟨g,7,none⟩=some (.int .i64 (B:Int))/\w'.cell? ⟨g,8,none⟩=some (.int .i64 (at_:Int))) (first|exact⟨bl,b3,cg,ch,ci,c5,cj,ck,cl⟩|(exact X.o _ G (Ev.ag (by with_reducible first|exact c.o|exact a.o|exact a.o.alloc a.o.size _)))|(exact X.o _ _ ac.o)|go_keep) (first
      |(go_at_call 36;refine(ab.o _ (by with_reducible first|exact(Below.refl _ wr).drew|exact((Below.refl _ wr).alloc (aa _) _).drew)).mono ?_;rintro e bm ⟨ct,rfl,r,s⟩;rw[<-d.o]at r;have a:Hid (Below wr.heap.size wr bm):=J (Below.trans (by with_reducible first|exact(Below.refl _ wr).drew|exact((Below.refl _ wr).alloc (aa _) _).drew) (s.mono (by simp<;>omega)));obtain⟨bp,br,rfl,i,_,_,_⟩:=r.form;replace r:=J r;replace s:=J s;replace i:=J i)
      |(go_at_call 25;refine(eC _ bp Z.length br _ Z 3 [(id:Int),(no:Int)] #[.int .i64 (id:Int),.int .i64 (no:Int)] (by with_reducible first|exact i.o|exact ew i.o _|exact cJ i.o _) (by with_reducible first|exact ah.new _ _ _|exact(ah.new _ _ _).drew|exact(ah.new _ _ _).drew.below s.o (by simp<;>omega)) rfl a1.o (by simp)).mono ?_;rintro e a2 ⟨cv,rfl,j,D⟩;rw[<-al.o,<-p.o]at j;have c:Hid (Below wr.heap.size wr a2):=J (Below.trans (by with_reducible first|exact a.o|exact a.o.alloc a.o.size _) (D.mono (by have:=a.o.size;simp<;>omega)));obtain⟨a3,bs,rfl,_,_,cc,_⟩:=j.form;have O:=J (MB.made j (λk a9=>by have:=M.o.lt k a9;have:=a.o.size;simp<;>omega):MB G a2 a3 am.length am);replace j:=J j;replace D:=J D)
      |(go_at_call 43;refine(m.o _ G (H 4) L a3 bs (by with_reducible first|exact M.o.below c.o) (by with_reducible first|exact(U.o.tree 4 (by omega)).ev (Ev.ag c.o)) (by with_reducible first|exact O.o)).mono ?_;rintro e Q ⟨rfl,ad,E,t⟩;have ae:=J (N.o.trans ((Ev.ag c.o).trans t):Ev F K ad Q);have ac:=J ((Ev.ag c.o).trans t:Ev G wr ad Q);replace E:=J E;replace t:=J t))
     all_goals
      have T:Hid (∃l,ar Q l L (S (1+1))/\Ev F K l Q):=J ⟨ad,E.o,ae.o⟩;go_wp2_with fail;go_roundw
      case rel=>exact⟨1+1,by omega,rfl,T⟩
      case measure=>simp[intOf]
    |2,a4,Y=>
     obtain⟨am,p,m⟩:=a8.o 2 (by omega)
     obtain⟨Z,d⟩:=I (bh 2 ⟨u,x,y,z,A,B,at_⟩)
     have a1:=J (by rw[d];exact ao.o 2 (by omega):Z.length<=100000)
     rw[<-d]at p
     have ab:Hid (∀W,Below wr.heap.size wr W->Calls Tryz.prog 36 #[.int .i64 2,.agg #[.string (str u),.int .i64 (x:Int),.int .i64 (y:Int),.int .u32 (z:Int),.int .i64 (A:Int),.int .i64 (B:Int),.int .i64 (at_:Int)]] W (dH W (bh 2 ⟨u,x,y,z,A,B,at_⟩))):=J λW bj=>gD W ⟨u,x,y,z,A,B,at_⟩ be.o (b2.o.below bj) 2 (by omega)
     have bl:wr.cell? ⟨gc,6,none⟩=some (.pointer (some ⟨H 5,0,none⟩)):=U.o.blk.cell 6
     have X:Hid (∀w' l,Ev G wr l w'->w'.cell? ⟨gc,6,none⟩=some (.pointer (some ⟨H 5,0,none⟩))/\w'.cell? ⟨g,1,none⟩=some (.int .i64 (no:Int))/\w'.cell? ⟨g,2,none⟩=some (.string (str u))/\w'.cell? ⟨g,3,none⟩=some (.int .i64 (x:Int))/\w'.cell? ⟨g,4,none⟩=some (.int .i64 (y:Int))/\w'.cell? ⟨g,5,none⟩=some (.int .u32 (z:Int))/\w'.cell? ⟨g,6,none⟩=some (.int .i64 (A:Int))/\w'.cell? ⟨g,7,none⟩=some (.int .i64 (B:Int))/\w'.cell? ⟨g,8,none⟩=some (.int .i64 (at_:Int))):=J λW l af=>by have q:=(U.o.ev af).blk;have C:=af.blk V.o b1.o;exact⟨q.cell 6,C.cell 1,C.cell 2,C.cell 3,C.cell 4,C.cell 5,C.cell 6,C.cell 7,C.cell 8⟩
     replace m:=J m
     replace p:=J p
     replace d:=J d
     have cb:IntKind.i64.wrap 5=5:=by decide
     go_wp2_with fail
     go_upto_region 7 with(fail)
     go_region_held3 (λw'=>w'.cell? ⟨gc,6,none⟩=some (.pointer (some ⟨H 5,0,none⟩))/\w'.cell? ⟨g,1,none⟩=some (.int .i64 (no:Int))/\w'.cell? ⟨g,2,none⟩=some (.string (str u))/\w'.cell? ⟨g,3,none⟩=some (.int .i64 (x:Int))/\w'.cell? ⟨g,4,none⟩=some (.int .i64 (y:Int))/\w'.cell? ⟨g,5,none⟩=some (.int .u32 (z:Int))/\w'.cell? ⟨g,6,none⟩=some (.int .i64 (A:Int))/\w'.cell? ⟨g,7,none⟩=some (.int .i64 (B:Int))/\w'.cell? ⟨g,8,none⟩=some (.int .i64 (at_:Int))) (first|exact⟨bl,b3,cg,ch,ci,c5,cj,ck,cl⟩|(exact X.o _ G (Ev.ag (by with_reducible first|exact c.o|exact a.o|exact a.o.alloc a.o.size _)))|(exact X.o _ _ ac.o)|go_keep) (first
      |(go_at_call 36;refine(ab.o _ (by with_reducible first|exact(Below.refl _ wr).drew|exact((Below.refl _ wr).alloc (aa _) _).drew)).mono ?_;rintro e bm ⟨ct,rfl,r,s⟩;rw[<-d.o]at r;have a:Hid (Below wr.heap.size wr bm):=J (Below.trans (by with_reducible first|exact(Below.refl _ wr).drew|exact((Below.refl _ wr).alloc (aa _) _).drew) (s.mono (by simp<;>omega)));obtain⟨bp,br,rfl,i,_,_,_⟩:=r.form;replace r:=J r;replace s:=J s;replace i:=J i)
      |(go_at_call 25;refine(eC _ bp Z.length br _ Z 3 [(id:Int),(no:Int)] #[.int .i64 (id:Int),.int .i64 (no:Int)] (by with_reducible first|exact i.o|exact ew i.o _|exact cJ i.o _) (by with_reducible first|exact ah.new _ _ _|exact(ah.new _ _ _).drew|exact(ah.new _ _ _).drew.below s.o (by simp<;>omega)) rfl a1.o (by simp)).mono ?_;rintro e a2 ⟨cv,rfl,j,D⟩;rw[<-al.o,<-p.o]at j;have c:Hid (Below wr.heap.size wr a2):=J (Below.trans (by with_reducible first|exact a.o|exact a.o.alloc a.o.size _) (D.mono (by have:=a.o.size;simp<;>omega)));obtain⟨a3,bs,rfl,_,_,cc,_⟩:=j.form;have O:=J (MB.made j (λk a9=>by have:=M.o.lt k a9;have:=a.o.size;simp<;>omega):MB G a2 a3 am.length am);replace j:=J j;replace D:=J D)
      |(go_at_call 43;refine(m.o _ G (H 5) L a3 bs (by with_reducible first|exact M.o.below c.o) (by with_reducible first|exact(U.o.tree 5 (by omega)).ev (Ev.ag c.o)) (by with_reducible first|exact O.o)).mono ?_;rintro e Q ⟨rfl,ad,E,t⟩;have ae:=J (N.o.trans ((Ev.ag c.o).trans t):Ev F K ad Q);have ac:=J ((Ev.ag c.o).trans t:Ev G wr ad Q);replace E:=J E;replace t:=J t))
     all_goals
      have T:Hid (∃l,ar Q l L (S (2+1))/\Ev F K l Q):=J ⟨ad,E.o,ae.o⟩;go_wp2_with fail;go_roundw
      case rel=>exact⟨2+1,by omega,rfl,T⟩
      case measure=>simp[intOf]
    |3,a4,Y=>
     obtain⟨am,p,m⟩:=a8.o 3 (by omega)
     obtain⟨Z,d⟩:=I (bh 3 ⟨u,x,y,z,A,B,at_⟩)
     have a1:=J (by rw[d];exact ao.o 3 (by omega):Z.length<=100000)
     rw[<-d]at p
     have ab:Hid (∀W,Below wr.heap.size wr W->Calls Tryz.prog 36 #[.int .i64 3,.agg #[.string (str u),.int .i64 (x:Int),.int .i64 (y:Int),.int .u32 (z:Int),.int .i64 (A:Int),.int .i64 (B:Int),.int .i64 (at_:Int)]] W (dH W (bh 3 ⟨u,x,y,z,A,B,at_⟩))):=J λW bj=>gD W ⟨u,x,y,z,A,B,at_⟩ be.o (b2.o.below bj) 3 (by omega)
     have bl:wr.cell? ⟨gc,7,none⟩=some (.pointer (some ⟨H 6,0,none⟩)):=U.o.blk.cell 7
     have X:Hid (∀w' l,Ev G wr l w'->w'.cell? ⟨gc,7,none⟩=some (.pointer (some ⟨H 6,0,none⟩))/\w'.cell? ⟨g,1,none⟩=some (.int .i64 (no:Int))/\w'.cell? ⟨g,2,none⟩=some (.string (str u))/\w'.cell? ⟨g,3,none⟩=some (.int .i64 (x:Int))/\w'.cell? ⟨g,4,none⟩=some (.int .i64 (y:Int))/\w'.cell? ⟨g,5,none⟩=some (.int .u32 (z:Int))/\w'.cell? ⟨g,6,none⟩=some (.int .i64 (A:Int))/\w'.cell? ⟨g,7,none⟩=some (.int .i64 (B:Int))/\w'.cell? ⟨g,8,none⟩=some (.int .i64 (at_:Int))):=J λW l af=>by have q:=(U.o.ev af).blk;have C:=af.blk V.o b1.o;exact⟨q.cell 7,C.cell 1,C.cell 2,C.cell 3,C.cell 4,C.cell 5,C.cell 6,C.cell 7,C.cell 8⟩
     replace m:=J m
     replace p:=J p
     replace d:=J d
     have cb:IntKind.i64.wrap 6=6:=by decide
     go_wp2_with fail
     go_upto_region 7 with(fail)
     go_region_held3 (λw'=>w'.cell? ⟨gc,7,none⟩=some (.pointer (some ⟨H 6,0,none⟩))/\w'.cell? ⟨g,1,none⟩=some (.int .i64 (no:Int))/\w'.cell? ⟨g,2,none⟩=some (.string (str u))/\w'.cell? ⟨g,3,none⟩=some (.int .i64 (x:Int))/\w'.cell? ⟨g,4,none⟩=some (.int .i64 (y:Int))/\w'.cell? ⟨g,5,none⟩=some (.int .u32 (z:Int))/\w'.cell? ⟨g,6,none⟩=some (.int .i64 (A:Int))/\w'.cell? ⟨g,7,none⟩=some (.int .i64 (B:Int))/\w'.cell? ⟨g,8,none⟩=some (.int .i64 (at_:Int))) (first|exact⟨bl,b3,cg,ch,ci,c5,cj,ck,cl⟩|(exact X.o _ G (Ev.ag (by with_reducible first|exact c.o|exact a.o|exact a.o.alloc a.o.size _)))|(exact X.o _ _ ac.o)|go_keep) (first
      |(go_at_call 36;refine(ab.o _ (by with_reducible first|exact(Below.refl _ wr).drew|exact((Below.refl _ wr).alloc (aa _) _).drew)).mono ?_;rintro e bm ⟨ct,rfl,r,s⟩;rw[<-d.o]at r;have a:Hid (Below wr.heap.size wr bm):=J (Below.trans (by with_reducible first|exact(Below.refl _ wr).drew|exact((Below.refl _ wr).alloc (aa _) _).drew) (s.mono (by simp<;>omega)));obtain⟨bp,br,rfl,i,_,_,_⟩:=r.form;replace r:=J r;replace s:=J s;replace i:=J i)
      |(go_at_call 25;refine(eC _ bp Z.length br _ Z 3 [(id:Int),(no:Int)] #[.int .i64 (id:Int),.int .i64 (no:Int)] (by with_reducible first|exact i.o|exact ew i.o _|exact cJ i.o _) (by with_reducible first|exact ah.new _ _ _|exact(ah.new _ _ _).drew|exact(ah.new _ _ _).drew.below s.o (by simp<;>omega)) rfl a1.o (by simp)).mono ?_;rintro e a2 ⟨cv,rfl,j,D⟩;rw[<-al.o,<-p.o]at j;have c:Hid (Below wr.heap.size wr a2):=J (Below.trans (by with_reducible first|exact a.o|exact a.o.alloc a.o.size _) (D.mono (by have:=a.o.size;simp<;>omega)));obtain⟨a3,bs,rfl,_,_,cc,_⟩:=j.form;have O:=J (MB.made j (λk a9=>by have:=M.o.lt k a9;have:=a.o.size;simp<;>omega):MB G a2 a3 am.length am);replace j:=J j;replace D:=J D)
      |(go_at_call 43;refine(m.o _ G (H 6) L a3 bs (by with_reducible first|exact M.o.below c.o) (by with_reducible first|exact(U.o.tree 6 (by omega)).ev (Ev.ag c.o)) (by with_reducible first|exact O.o)).mono ?_;rintro e Q ⟨rfl,ad,E,t⟩;have ae:=J (N.o.trans ((Ev.ag c.o).trans t):Ev F K ad Q);have ac:=J ((Ev.ag c.o).trans t:Ev G wr ad Q);replace E:=J E;replace t:=J t))
     all_goals
      have T:Hid (∃l,ar Q l L (S (3+1))/\Ev F K l Q):=J ⟨ad,E.o,ae.o⟩;go_wp2_with fail;go_roundw
      case rel=>exact⟨3+1,by omega,rfl,T⟩
      case measure=>simp[intOf]
    |n+4,a4,Y=>exact absurd Y (by omega)
   ·obtain rfl:b=4:=by omega
    have cm:Hid (cG F w L (S 4) (.int .i64 0) (.returned (.int .i64 0)) wr):=J ⟨rfl,G,M,bb.o.trans N⟩;replace M:=J M;replace N:=J N;go_wp2_with fail;go_ret;exact cm.o
end
section
open Go.RowKit Go.Maps
theorem H9(g d i:Nat)(n:d≠g)(o:i≠g)(a:cC)(p:Option Addr)(j:Nat):sJ 40 #[.pointer (some ⟨d,0,none⟩),.pointer (some ⟨g,0,none⟩),.pointer (some ⟨i,0,none⟩)] (λq=>∃(id no:Nat) (f:aX),no<=281474976710655/\f.small/\q=cO 1 id no f) (HQ 51 61 9 (mi a.path) [(d,23,#[.slice p 6 j]),(i,54,(cQ a).toArray)] g):=
 zI 51 61 9 (mi a.path) _ g 40 _ _ H8 ⟨by decide,by decide⟩ ⟨by decide,by decide⟩ (λx c=>by
  simp only[mem_cons,not_mem_nil,or_false]at c;rcases c with rfl|rfl
  ·exact⟨by show(23:Nat)≠194;decide,by show(23:Nat)≠259;decide,by show(23:Nat)≠61;decide,n⟩
  ·exact⟨by show(54:Nat)≠194;decide,by show(54:Nat)≠259;decide,by show(54:Nat)≠61;decide,o⟩) λw v m xs key b y z A B C D c E r F G H K mk N=>by
  obtain⟨id,no,f,k,s,e⟩:=r;have t:cO 1 id no f=(aP [(id:Int),(no:Int)],dx f):=by unfold cO;rw[if_pos rfl]
  rw[t]at e;have u:key=aP [(id:Int),(no:Int)]:=congrArg Prod.fst e;have L:b=dx f:=congrArg Prod.snd e;have M:mi a.path (key,b)=fw a.path no f:=by rw[e,<-t];exact zQ s a.path id no k
  rw[M];have l:key.length=12:=by rw[u];exact lE _ _
  exact EM w g d i v m xs C D E p j (c _ (.head _)) a (c _ (.tail _ (.head _))) y z key.length A b.length B id no f s k l (by rw[<-u];exact F) (by rw[<-L];exact G) H mk K
theorem Ia(w:World)(F:Nat->Prop)(gc ad:Nat)(Q:Nat->Nat)(st:aB)(h:ar w F ad st)(an:fD w F gc ad Q)(a:cC)(cs:1<=a.id/\a.id<=281474976710655)(L:List ai) (a7 B:List KV) (a8:sH st (aP [(a.id:Int)]) [] (st.roots 1:Int) L) (br:mh st L a7) (y:a7.takeWhile (bW (di (aP [(a.id:Int)])))=B) (a9:∀q,q∈a7->∃(id no:Nat) (f:aX),no<=281474976710655/\f.small/\q=cO 1 id no f) (a2:a7.length<=900000):Calls Tryz.prog 15 #[.pointer (some ⟨gc,0,none⟩),.agg (cQ a).toArray] w (oD 61 9 (mi a.path) F w ad st B):=by
 obtain⟨N,ae⟩:=I (w.heap.size);obtain⟨g,bs⟩:=I (w.heap.size+1);obtain⟨z,D⟩:=I ((w.alloc (.cells (cQ a).toArray 54)).alloc (.cells #[.slice none 0 0] 51));have U:ah z N 54 (cQ a).toArray:=by rw[D,ae];exact(ah.new w 54 _).alloc _
 have af:ah z g 51 #[.slice none 0 0]:=by rw[D,bs];exact cT w _ 51 _
 have E:Below w.heap.size w z:=by rw[D];exact dR w _ _
 have a3:z.heap.size=w.heap.size+2:=by rw[D];simp
 obtain⟨S,V⟩:=I (aP [(a.id:Int)]);have O:S.length=6:=by rw[V];exact nz _
 obtain⟨M,X⟩:=I (di S);have ba:M.length<=6:=by rw[X,<-O];exact Bl S
 rw[<-V]at a8 y;rw[<-X]at y;have bb:Hid (∀t:World,Calls Tryz.prog 25 #[.slice none 0 0,.slice (some ⟨t.heap.size,0,none⟩) 1 1] (t.alloc (.cells #[.int .i64 (a.id:Int)] 3)) (dH (t.alloc (.cells #[.int .i64 (a.id:Int)] 3)) S)):=J λt=>by have q:=eC (t.alloc (.cells #[.int .i64 (a.id:Int)] 3)) none 0 0 t.heap.size [] 3 [(a.id:Int)] _ (RB.nil _ _) (ah.new t 3 _) rfl (by omega) (by simp);rw[nil_append,<-V]at q;exact q
 have ab:=h.lt;have a4:Hid (∀(i:World) (r:Option Addr) (d s:Nat) (b l:World) (T:Option Addr) (ac:Nat),Below z.heap.size z i->MB F i r 6 S->s=i.heap.size->b=i.alloc (.cells #[.slice r 6 d] 23)->Below b.heap.size b l->OB l b.heap.size (.slice T M.length ac) M.length M->
  Calls Tryz.prog 29 #[.pointer (some ⟨Q 1,0,none⟩),.slice r 6 d,.slice T M.length ac,.func (.func 40) #[] #[.pointer (some ⟨s,0,none⟩),.pointer (some ⟨g,0,none⟩),.pointer (some ⟨N,0,none⟩)]] l λe al=>e=.returned (.int .i64 0)/\(al.cell? ⟨gc,2,none⟩=some (.pointer (some ⟨Q 1,0,none⟩))/\al.cell? ⟨s,0,none⟩=some (.slice r 6 d))/\∃A c,al.cell? ⟨g,0,none⟩=some (.slice A B.length c)/\oD 61 9 (mi a.path) F w ad st B (.returned (.tuple #[.slice A B.length c,.int .i64 0])) al):=J λi r d s b l T ac G a5 H n K Y=>by
  have b0:=G.size;have m:Below w.heap.size w b:=by rw[n];exact(E.trans (G.mono E.size)).alloc (aO E.size b0) _
  have ao:Below w.heap.size w l:=m.trans (K.mono m.size);have bc:Below z.heap.size z l:=by
   have q:Below z.heap.size z b:=by rw[n];exact G.alloc b0 _
   exact q.trans (K.mono q.size)
  have cb:ar l F ad st:=h.below ao;have b1:fD l F gc ad Q:=an.ev (Ev.ag ao);have ct:ah l N 54 (cQ a).toArray:=U.below bc U.lt;have cv:ah l g 51 #[.slice none 0 0]:=af.below bc af.lt;have cw:ah l s 23 #[.slice r 6 d]:=by
   have q:ah b s 23 #[.slice r 6 d]:=by rw[n,H];exact ah.new i 23 _
   exact q.below K q.lt
  have bv:∀j,(j=g\/j=s\/j=N)->w.heap.size<=j:=λj a6=>by rcases a6 with rfl|rfl|rfl<;>omega
  have cc:∀j,(j=g\/j=s\/j=N)->¬F j:=λj a6 u=>by have:=ab _ u;have:=bv j a6;omega
  have ce:aL l (FC F (λj=>j=g\/j=s\/j=N)) (Q 1) ad 1:=⟨(b1.tree 1 (by omega)).blk,λu=>u.elim (b1.tree 1 (by omega)).o (λe=>by have:=ah.lt (an.tree 1 (by omega)).blk;have:=bv _ e;omega)⟩
  have b4:Ev F i F l:=by
   have q:Below i.heap.size i b:=by rw[n];exact(Below.refl _ i).alloc (aa _) _
   exact Ev.ag (q.trans (K.mono q.size))
  have cf:MB (FC F (λj=>j=g\/j=s\/j=N)) l T M.length M:=MB.made Y (λk C=>by
   rcases C with C|C
   ·have:=ab k C;have:=m.size;omega
   ·have cL:b.heap.size=i.heap.size+1:=by rw[n];simp
    rcases C with rfl|rfl|rfl<;>omega)
  have q:=mH 40 _ _ _ (H9 g s N (by omega) (by omega) a r d) l F (λj=>j=g\/j=s\/j=N) (Q 1) ad 1 st cb ce (by omega) S M r T d ac (by rw[O];exact a5.ev b4) (by omega) cf ⟨_,cv,⟨rfl,.inl ⟨rfl,rfl⟩⟩,(λx u=>by
   simp only[mem_cons,not_mem_nil,or_false]at u;rcases u with rfl|rfl
   ·exact cw
   ·exact ct),.inl rfl,(λx u=>by
   simp only[mem_cons,not_mem_nil,or_false]at u;rcases u with rfl|rfl
   ·exact .inr (.inl rfl)
   ·exact .inr (.inr rfl)),(λk C=>by simp[Value.ownBlock]at C),λk C=>by
   rcases C with rfl|rfl|rfl
   ·exact .inl rfl
   ·exact .inr (.inr ⟨_,.head _,rfl⟩)
   ·exact .inr (.inr ⟨_,.tail _ (.head _),rfl⟩)⟩ cc L a7 a8 br a9 a2
  rw[y,O]at q;refine q.mono ?_;rintro e al ⟨rfl,cg,cM,cP,b5,b6,cx,ch⟩;obtain⟨v,cy,ci,cz,z3,_,z5,_⟩:=b6;obtain⟨A,c,rfl⟩:=aE ci;have bd:Ev F w F l:=Ev.ag ao;have be:Ev F w cg al:=⟨bd.only.trans ch.only (λj a6 u=>u.elim id (λe=>by have:=bv j e;omega)),λj a6=>by
   rcases ch.grow j (.inl a6)with u|u
   ·rcases u with u|u
    ·exact .inl u
    ·exact .inr (bv j u)
   ·have:=bd.size;exact .inr (by omega)⟩
  exact⟨rfl,⟨(an.ev be).blk.cell 2,(cz _ (.head _)).cell 0⟩,A,c,cy.cell 0,A,c,rfl,cg,b5,be,ci,λk C=>(cx k (z5 k C)).2⟩
 have cj:Hid (∀(t:World) (A:Option Addr) (c:Nat),RB t t.heap.size A 6 S->Calls Tryz.prog 39 #[.slice A 6 c] t (dH t M)):=J λt A c cA=>by rw[X];exact Ee A 6 c S t cA (by omega)
 have b2:Hid (∀t,Below w.heap.size w t->t.cell? ⟨gc,2,none⟩=some (.pointer (some ⟨Q 1,0,none⟩))):=J λt bx=>(an.ev (Ev.ag bx)).blk.cell 2;have bA:=J ab;obtain⟨cB,am⟩:=I (B.length);obtain⟨ap,s0,s1,s2,s4,ck⟩:=a;simp only[cQ]at *;obtain⟨bi,bj⟩:=cs;have cD:¬(s2:Int)<1:=by omega
 have cE:¬281474976710655<(s2:Int):=by omega
 have cl:(((w.alloc (.cells #[.string (str ap),.int .i64 (s0:Int),.int .i64 (s1:Int),.int .i64 (s2:Int),.int .i64 (ck.length:Int),.int .i64 (s4:Int)] 54)))).cell? ⟨w.heap.size,3,none⟩=some (.int .i64 (s2:Int)):=(ah.new w 54 _).cell 3;have bl:z.cell? ⟨w.heap.size,3,none⟩=some (.int .i64 (s2:Int)):=by rw[<-ae];exact U.cell 3
 generalize ck.length=s3 at *;refine bX ?_ h an a8 br y;clear h an a8 br y;intro h an a8 br y;replace a9:Hid _:=J a9;refine aR ?_ a2 U af E a3 V O X ba am bi bj D;clear a2 U af E a3 V O X ba am bi bj D;intro a2 U af E a3 V O X ba am bi bj D;have cm:Hid (w.heap.size+1=g):=J bs.symm;have bm:Hid (w.heap.size=N):=J ae.symm;replace bs:=J bs;replace ae:=J ae;clear ab;go_enter Tryz.func15,Tryz.ntmps15;go_upto_region 6 with(fail)
 rw[<-D.o,cm.o,bm.o];have bB:z.cell? ⟨N,3,none⟩=some (.int .i64 (s2:Int)):=by rw[<-bm.o];exact bl
 clear cl bl;go_wp2_with fail;go_at_call 25;refine(bb.o _).mono ?_;rintro e i ⟨v3,rfl,Z,G⟩;rw[O.o]at Z;obtain⟨r,d,rfl,_,_,b3,_⟩:=Z.form;have a0:=J (((Below.refl _ z).alloc (aa _) _).trans (G.mono (by simp)):Below z.heap.size z i);have a5:=J (MB.made Z (λk C=>by have:=bA.o k C;have:=a3.o;simp;omega):MB F i r 6 S);obtain⟨s,H⟩:=I (i.heap.size);obtain⟨b,n⟩:=I (i.alloc (.cells #[.slice r 6 d] 23));have cn:=J (λ(l:World) (T:Option Addr) (ac:Nat) (b5:Below b.heap.size b l) (b6:OB l b.heap.size (.slice T M.length ac) M.length M)=>a4.o i r d s b l T ac a0.o a5.o H n b5 b6);have P:Below i.heap.size i b:=by rw[n];exact(Below.refl _ i).alloc (aa _) _
 have m:Below w.heap.size w b:=E.o.trans ((a0.o.trans (P.mono a0.o.size)).mono E.o.size);have cH:b.cell? ⟨gc,2,none⟩=some (.pointer (some ⟨Q 1,0,none⟩)):=b2.o b m;have co:b.cell? ⟨s,0,none⟩=some (.slice r 6 d):=by rw[n,H];exact(ah.new i 23 _).cell 0
 have b7:=J ((a5.o.ev (Ev.ag P)).rb:RB b b.heap.size r 6 S);have cp:Hid (∀W,Below b.heap.size b W->W.cell? ⟨gc,2,none⟩=some (.pointer (some ⟨Q 1,0,none⟩))/\W.cell? ⟨s,0,none⟩=some (.slice r 6 d)):=J λW bx=>⟨b2.o W (m.trans (bx.mono m.size)),(bx.cell (p:=⟨s,0,none⟩) (by rw[n,H];simp)).trans co⟩;refine bz ?_ Z G P m;clear Z G P m;intro Z G P m;have b8:Hid (i.heap.size=s):=J H.symm;have b9:Hid (i.alloc (.cells #[.slice r 6 d] 23)=b):=J n.symm;replace H:=J H;replace n:=J n;replace b3:Hid _:=J b3;clear bb a4 bB;go_upto_region 7 with(fail)
 rw[b9.o,b8.o];go_region_held3 (λw'=>w'.cell? ⟨gc,2,none⟩=some (.pointer (some ⟨Q 1,0,none⟩))/\w'.cell? ⟨s,0,none⟩=some (.slice r 6 d)) (first|exact⟨cH,co⟩|exact cr|exact cp.o _ bp.o|go_keep) (first
  |(go_at_call 39;refine(cj.o _ r d (by exact b7.o.drew)).mono ?_;rintro e l ⟨v5,rfl,Y,K⟩;obtain⟨T,ac,rfl,_,_,_,_⟩:=Y.form;have bp:=J (Below.trans (Below.refl _ b).drew K:Below b.heap.size b l);have ca:=J (cn.o l T ac bp.o Y);replace Y:=J Y;replace K:=J K)
  |(go_at_call 29;refine ca.o.mono ?_;rintro e al ⟨rfl,cr,A,c,z0,a1⟩;replace a1:Hid _:=J a1))
 all_goals
  have cK:al.cell? ⟨g,0,none⟩=some (.slice A cB c):=by rw[z0,am.o]
  clear z0;go_wp2_with fail
  go_ret2
  rw[am.o];exact a1.o
def tP(st:aB)(k:Nat)(key b:List UInt8):Prop:=
 ∀(w:World) (F:Nat->Prop) (gt a:Nat) (d:Option Addr) (i:Nat),ar w F a st->aL w F gt a k->MB F w d key.length key->
  Calls Tryz.prog 35 #[.pointer (some ⟨gt,0,none⟩),.slice d key.length i] w λe w'=>∃(c:Nat->Prop) (f:Option Addr) (g:Nat),e=.returned (.tuple #[.slice f b.length g,.bool true,.int .i64 0])/\ar w' c a st/\Ev F w c w'/\MB c w' f b.length b/\b.length<=g
theorem Ib{st:aB}{bG:Nat->List KV}{M k:Nat}(h:fK st bG M)(W:k<7)(key:List UInt8):(key∉(bG k).map (·.1)->C4 st k key)/\∀b,(key,b)∈bG k->tP st k key b:=by
 obtain⟨fl,T,U,r,X,_⟩:=h.one W;have n:=r.rise;by_cases z:st.roots k=0
 ·have A:bG k=[]:=by
   obtain⟨L,P,O,B,Y,_⟩:=r;rcases B with⟨_,rfl,_⟩|⟨ab,d⟩
   ·exact bT Y.len
   ·have:=d.has.1;omega
  exact⟨λ_=>vk st k (by omega) key z,λb f=>by rw[A]at f;cases f⟩
 ·obtain⟨m,V,C,D,E,G,H,Z⟩:=CI X r z key;refine⟨λK w F gt s t u v d g=>?_,λb f w F gt s t u v d g=>?_⟩
  ·refine(qu w F gt s k st v d (by omega) key t u g _ m V rfl C D G E).mono ?_;rintro e w' ⟨x,i,j,a⟩;rcases a with⟨y,rfl⟩|⟨l,c,b,N,Q,S,o,rfl,p,q⟩
   ·exact⟨rfl,x,i,j⟩
   ·exact absurd (H.1 l) K
  ·refine(qu w F gt s k st v d (by omega) key t u g _ m V rfl C D G E).mono ?_;rintro e w' ⟨x,i,j,a⟩;rcases a with⟨y,rfl⟩|⟨l,c,b',N,Q,S,o,rfl,p,q⟩
   ·rw[H.2 (aM.2 ⟨_,f,rfl⟩)]at y;cases y
   ·have e:=nZ n (Z c b' l S o) f;subst e;exact⟨x,N,Q,rfl,i,j,p,q⟩
def xC(F:Nat->Prop)(w:World)(b:Nat)(st:aB)(c:Array Value)(e:Ending)(w':World):Prop:=e=.returned (.tuple #[.agg c,.bool true,.int .i64 0])/\∃a,ar w' a b st/\Ev F w a w'
theorem EO(w:World)(F:Nat->Prop)(gc u:Nat)(T:Nat->Nat)(st:aB)(h:ar w F u st)(bb:fD w F gc u T)(X:iF w)(a:cC)(D:a.ok)(i:tP st 0 (bK [str a.path]) (kz a)):Calls Tryz.prog 14 #[.pointer (some ⟨gc,0,none⟩),.string (str a.path)] w (xC F w u st (cQ a).toArray):=by
 have b3:=D.path;obtain⟨b,Y⟩:=I (a.path);rw[<-Y]at i b3⊢;obtain⟨d,x⟩:=I (w.alloc (.cells zA 54));have y:Below w.heap.size w d:=by rw[x];exact(Below.refl _ w).alloc (aa _) _
 have N:Ev F w F d:=Ev.ag y;obtain⟨g,ao⟩:=I (w.heap.size);have a0:ah d g 54 zA:=by rw[x,ao];exact ah.new w 54 _
 have O:ar d F u st:=h.below y;have z:=bb.ev N;have b9:d.cell? ⟨gc,1,none⟩=some (.pointer (some ⟨T 0,0,none⟩)):=z.blk.cell 1;obtain⟨ca,m,b4⟩:=(X.below y).below ((Below.refl d.heap.size d).alloc (aa _) (.cells #[.string (str b)] 9));have a1:Hid (∃P,P=bK [str b]/\Calls Tryz.prog 23 #[.slice none 0 0,.slice (some ⟨d.heap.size,0,none⟩) 1 1] (d.alloc (.cells #[.string (str b)] 9)).drew (dH (d.alloc (.cells #[.string (str b)] 9)).drew P)):=J (by have q:=ny none _ 0 1 0 1 [] [str b] m (d.alloc (.cells #[.string (str b)] 9)).drew (RB.nil _ _) (RS.KP d (str b) 9) (by omega) (by omega) (by intro t a1;simp at a1;rw[a1,dV];omega) ca b4;rw[nil_append]at q;exact⟨_,rfl,q⟩)
 obtain⟨P,Z,be⟩:=a1.o;rw[<-Z]at i;obtain⟨bp,A⟩:=I (kz a);have ab:bp.length=30:=by rw[A];exact nE a
 rw[<-A]at i;have a2:Hid (∀(r:World) (ae:Nat->Prop) (U:Option Addr) (a3:Nat),ar r ae u st->aL r ae (T 0) u 0->MB ae r U P.length P->Calls Tryz.prog 35 #[.pointer (some ⟨T 0,0,none⟩),.slice U P.length a3] r λe w'=>∃(af:Nat->Prop) (E:Option Addr) (G:Nat),e=.returned (.tuple #[.slice E 30 G,.bool true,.int .i64 0])/\ar w' af u st/\Ev ae r af w'/\MB af w' E 30 bp/\30<=G):=J λr ae U a3 br bc bd=>by have q:=i r ae (T 0) u U a3 br bc bd;rw[ab]at q;exact q
 have a4:Hid (∀(al:World) (E:Option Addr) (G:Nat),RB al al.heap.size E 30 bp->30<=G->Calls Tryz.prog 38 #[.string (str b),.slice E 30 G] al (zn al (str b) a.stamp a.long a.id a.files.length a.bad)):=J λal E G b5 cb=>uN al (str b) E G a.stamp a.long a.id a.files.length a.bad (by rw[A]at b5;exact b5) cb (by have:=D.stamp;omega) (by have:=D.long;omega) (by have:=D.id;omega) (by have:=D.many;omega) (by have:=D.bad;omega)
 have bs:=J O.lt;have Q:¬F g:=λcc=>by have:=h.lt _ cc;omega
 have bi:Hid (∀w' af,Ev F d af w'->w'.cell? ⟨gc,1,none⟩=some (.pointer (some ⟨T 0,0,none⟩))):=J λW af ce=>(z.ev ce).blk.cell 1;have bv:Hid (w.alloc (.cells #[.string ⟨#[]⟩,.int .i64 0,.int .i64 0,.int .i64 0,.int .i64 0,.int .i64 0] 54)=d):=J x.symm;have b6:Hid (w.heap.size=g):=J ao.symm;obtain⟨ap,s0,s1,s2,s4,cf⟩:=a;simp only[cQ]at *;subst Y;generalize cf.length=s3 at *;have a5:Hid (∀H s K W,ar s H u st->Ev F d H s->Below s.heap.size s K->R (λj=>j=g) K W->xC F w u st #[.string (str b),.int .i64 (s0:Int),.int .i64 (s1:Int),.int .i64 (s2:Int),.int .i64 (s3:Int),.int .i64 (s4:Int)] (.returned (.tuple #[.agg #[.string (str b),.int .i64 (s0:Int),.int .i64 (s1:Int),.int .i64 (s2:Int),.int .i64 (s3:Int),.int .i64 (s4:Int)],.bool true,.int .i64 0])) W):=J λH s K W br bc bd bx=>by
  have bj:=br.below bd;have bl:Ev F w H K:=N.trans (bc.trans (Ev.ag bd));have bA:¬H g:=bc.new Q a0.lt;refine⟨rfl,H,bj.keep (λj am=>bx.block j (bj.lt j am) (λe=>bA (by rw[<-e];exact am))) bx.size,?_⟩;exact⟨bl.only.trans bx (λj am e=>absurd am (by omega)),λj am=>by
   rcases bl.grow j am with bB|bB
   ·exact .inl bB
   ·exact .inr bB⟩
 refine aR ?_ h bb X x y N a0 O z Z Q ao A;clear h bb X x y N a0 O z Z Q ao A;intro h bb X x y N a0 O z Z Q ao A;refine bf ?_ ab i D;clear ab i D;intro ab i D;clear b4 a1 b3;go_enter Tryz.func14,Tryz.ntmps14;go_upto_region 3 with(fail)
 rw[bv.o,b6.o];go_region_held3 (λw'=>w'.cell? ⟨gc,1,none⟩=some (.pointer (some ⟨T 0,0,none⟩))) (first|exact b9|exact bi.o _ F (Ev.ag L.o)|exact bi.o _ _ V.o|go_keep) (first
  |(go_at_call 23;refine be.mono ?_;rintro e r ⟨co,rfl,ac,a6⟩;obtain⟨U,a3,rfl,_,_,_,_⟩:=ac.form;have L:Hid (Below d.heap.size d r):=J (Below.trans (by with_reducible first|exact((Below.refl _ d).alloc (aa _) _).drew) (a6.mono (by simp)));have b0:=J (MB.made ac (λk cg=>by have:=bs.o k cg;simp;omega):MB F r U P.length P);replace ac:=J ac;replace a6:=J a6)
  |(go_at_call 35;refine(a2.o r F U a3 (O.o.below L.o) ((z.o.tree 0 (by omega)).ev (Ev.ag L.o)) b0.o).mono ?_;rintro e s ⟨H,E,G,rfl,a7,a8,a9,ba⟩;have V:=J ((Ev.ag L.o).trans a8:Ev F d H s);have b1:=J a9.rb;replace a7:=J a7;replace a8:=J a8;replace a9:=J a9;replace ba:=J ba))
 all_goals
  have bm:=J (a4.o s E G b1.o ba.o);go_wp2_with fail;go_at_call 38;refine bm.o.mono ?_;rintro e K ⟨rfl,B⟩;have S:=V.o.blk a0.o Q.o;have ad:=S.below B S.lt;obtain⟨f,C⟩:=I (K.alloc (.cells #[.string (str b),.int .i64 (s0:Int),.int .i64 (s1:Int),.int .i64 (s2:Int),.int .i64 (s3:Int),.int .i64 (s4:Int)] 54));have c:ah f g 54 zA:=by rw[C];exact ad.alloc _
  have l:ah f K.heap.size 54 #[.string (str b),.int .i64 (s0:Int),.int .i64 (s1:Int),.int .i64 (s2:Int),.int .i64 (s3:Int),.int .i64 (s4:Int)]:=by rw[C];exact ah.new K 54 _
  have M:Below s.heap.size s f:=by rw[C];exact B.alloc B.size _
  have cp:=l.cell 0;have cr:=l.cell 1;have cs:=l.cell 2;have ct:=l.cell 3;have cv:=l.cell 4;have cw:=l.cell 5;have cx:f.cell? ⟨g,0,none⟩=some (.string ⟨#[]⟩):=c.cell 0;have cy:f.cell? ⟨g,1,none⟩=some (.int .i64 0):=c.cell 1;have cz:f.cell? ⟨g,2,none⟩=some (.int .i64 0):=c.cell 2;have y3:f.cell? ⟨g,3,none⟩=some (.int .i64 0):=c.cell 3;have y4:f.cell? ⟨g,4,none⟩=some (.int .i64 0):=c.cell 4;have cA:f.cell? ⟨g,5,none⟩=some (.int .i64 0):=c.cell 5;have cB:=c.frozen 0;have cD:=c.frozen 1;have cE:=c.frozen 2;have cH:=c.frozen 3;have cK:=c.frozen 4;have f5:=c.frozen 5;have b7:=J (λW q=>a5.o H s f W a7.o V.o M q);have n:=J ((((((c.aK 0 (.string (str b))).aK 1 (.int .i64 (s0:Int))).aK 2 (.int .i64 (s1:Int))).aK 3 (.int .i64 (s2:Int))).aK 4 (.int .i64 (s3:Int))).aK 5 (.int .i64 (s4:Int)):ah ((((((f.setCell ⟨g,0,none⟩ (.string (str b))).setCell ⟨g,1,none⟩ (.int .i64 (s0:Int))).setCell ⟨g,2,none⟩ (.int .i64 (s1:Int))).setCell ⟨g,3,none⟩ (.int .i64 (s2:Int))).setCell ⟨g,4,none⟩ (.int .i64 (s3:Int))).setCell ⟨g,5,none⟩ (.int .i64 (s4:Int))) g 54 #[.string (str b),.int .i64 (s0:Int),.int .i64 (s1:Int),.int .i64 (s2:Int),.int .i64 (s3:Int),.int .i64 (s4:Int)]);refine dZ ?_ S ad c l M B;clear S ad c l M B;intro S ad c l M B;clear bm be a5 a2 a4;have b2:Hid (K.alloc (.cells #[.string (str b),.int .i64 (s0:Int),.int .i64 (s1:Int),.int .i64 (s2:Int),.int .i64 (s3:Int),.int .i64 (s4:Int)] 54)=f):=J C.symm;replace C:=J C;go_upto_region 7 with(fail)
  rw[b2.o];go_wp2_with fail;have ch:R (λj=>j=g) f ((((((f.setCell ⟨g,0,none⟩ (.string (str b))).setCell ⟨g,1,none⟩ (.int .i64 (s0:Int))).setCell ⟨g,2,none⟩ (.int .i64 (s1:Int))).setCell ⟨g,3,none⟩ (.int .i64 (s2:Int))).setCell ⟨g,4,none⟩ (.int .i64 (s3:Int))).setCell ⟨g,5,none⟩ (.int .i64 (s4:Int))):=((((((R.refl (λj=>j=g) f).setCell (p:=⟨g,0,none⟩) (λ_=>rfl) _).setCell (p:=⟨g,1,none⟩) (λ_=>rfl) _).setCell (p:=⟨g,2,none⟩) (λ_=>rfl) _).setCell (p:=⟨g,3,none⟩) (λ_=>rfl) _).setCell (p:=⟨g,4,none⟩) (λ_=>rfl) _).setCell (p:=⟨g,5,none⟩) (λ_=>rfl) _
  refine bodyPost_ret (v:=.tuple #[.agg #[.string (str b),.int .i64 (s0:Int),.int .i64 (s1:Int),.int .i64 (s2:Int),.int .i64 (s3:Int),.int .i64 (s4:Int)],.bool true,.int .i64 0]) ?_ rfl (b7.o _ ch);obtain⟨an,b8⟩:=I (((((((f.setCell ⟨g,0,none⟩ (.string (str b))).setCell ⟨g,1,none⟩ (.int .i64 (s0:Int))).setCell ⟨g,2,none⟩ (.int .i64 (s1:Int))).setCell ⟨g,3,none⟩ (.int .i64 (s2:Int))).setCell ⟨g,4,none⟩ (.int .i64 (s3:Int))).setCell ⟨g,5,none⟩ (.int .i64 (s4:Int))));replace n:=n.o;rw[<-b8]at n⊢;have ci:an.cell? ⟨g,0,none⟩=some (.string (str b)):=n.cell 0;have cj:an.cell? ⟨g,1,none⟩=some (.int .i64 (s0:Int)):=n.cell 1;have ck:an.cell? ⟨g,2,none⟩=some (.int .i64 (s1:Int)):=n.cell 2;have cl:an.cell? ⟨g,3,none⟩=some (.int .i64 (s2:Int)):=n.cell 3;have cm:an.cell? ⟨g,4,none⟩=some (.int .i64 (s3:Int)):=n.cell 4;have cn:an.cell? ⟨g,5,none⟩=some (.int .i64 (s4:Int)):=n.cell 5;simp[results,Tryz.results14,go_sem,ci,cj,ck,cl,cm,cn]
def M9(g:Nat)(d:List (List UInt8×List UInt8))(D:Nat->Prop)(w:World):Prop:=ah w g 3 #[.int .i64 (iV d:Int)]/\D g/\∀k,D k->k=g
theorem zS(d:List KV)(q:KV):iV (d++[q])=val (q.1.take 6):=by unfold iV;rw[getLast?_append];rfl
theorem EP(d:List KV):iV d<281474976710656:=by
 unfold iV;split
 ·omega
 ·rename_i p _;have h:=xD (p.1.take 6);have a:(p.1.take 6).length<=6:=by rw[aH];omega
  have b:=Nat.pow_le_pow_right (n:=256) (by decide) a;have c:(256:Nat)^6=281474976710656:=by decide
  omega
theorem BW(w:World)(g:Nat)(x:Int)(a:ah w g 3 #[.int .i64 x]) (f l:Option Addr) (n c m p:Nat) (key:List UInt8) (b:RB w w.heap.size f n key) (q:6<=n) (r:n<=100000) (k:n<=c) (mk:c<=maxLen):Calls Tryz.prog 53 #[.slice f n c,.slice l m p,.pointer (some ⟨g,0,none⟩)] w λe w'=>e=.returned (.int .i64 0)/\w'=w.setCell ⟨g,0,none⟩ (.int .i64 (val (key.take 6):Int)):=by have i:=b.len;have j:=J (lX f n c 0 key (key.drop 6) (key.take 6) w b (by omega) k mk (by omega) (by rw[drop_zero,bE]) (by rw[aH];omega));obtain⟨V,d⟩:=I (val (key.take 6));rw[<-d]at j⊢;have s:w.cell? ⟨g,0,none⟩=some (.int .i64 x):=a.cell 0;have t:=a.frozen 0;refine bf ?_ a b d;clear a b d;intro a b d;clear i q r k mk;go_enter Tryz.func53,Tryz.ntmps53;go_wp2_with fail;go_at_call 31;refine j.o.mono ?_;rintro e u ⟨rfl,rfl⟩;clear j;go_wp2_with fail;go_ret;exact⟨rfl,rfl⟩
theorem JW(g:Nat):sJ 53 #[.pointer (some ⟨g,0,none⟩)] (λq=>6<=q.1.length) (M9 g) where
 fn:=zH
 good d D w hJ k a:=by obtain⟨c,_,f⟩:=hJ;obtain rfl:=f k a;exact⟨_,_,c,by decide,by decide⟩
 keep d D w w' hJ a hs:=⟨Eq.trans (a g hJ.2.1) hJ.1,hJ.2⟩
 step d D w key b kA vA kc vc hd hok hJ a hv lk lv mk hl:=by
  obtain⟨c,i,f⟩:=hJ;refine(BW w g _ c kA vA key.length kc b.length vc key a hok hl lk mk).mono ?_;rintro e w' ⟨rfl,rfl⟩;refine⟨rfl,D,⟨?_,i,f⟩,?_,λk a=>.inl a⟩
  ·rw[zS];exact c.aK 0 _
  ·exact(R.refl D w).setCell (p:=⟨g,0,none⟩) (λ_=>i) _
theorem zT(w:World)(F:Nat->Prop)(gc d:Nat)(s:Nat->Nat)(st:aB)(h:ar w F d st)(u:fD w F gc d s)(L:List ai)(f:List KV)(D:sH st [] [] (st.roots 2:Int) L)(E:mh st L f)(v:∀q,q∈f->6<=q.1.length)(k:f.length<=900000):Calls Tryz.prog 21 #[.pointer (some ⟨gc,0,none⟩)] w (zG F w d st (iV f+1)):=by
 obtain⟨g,t⟩:=I (w.heap.size);obtain⟨i,a⟩:=I (w.alloc (.cells #[.int .i64 0] 3));have l:ah i g 3 #[.int .i64 0]:=nB w _ _ g i t a;have c:Ev F w F i:=by rw[a];exact(Ev.refl F w).az _
 have m:ar i F d st:=by rw[a];exact h.alloc _
 have b:=u.ev c;have n:¬F g:=λx=>by have:=h.lt _ x;omega
 have p:aL i (FC F (λj=>j=g)) (s 2) d 2:=⟨(b.tree 2 (by omega)).blk,λx=>x.elim (b.tree 2 (by omega)).o (λe=>by have U:s 2=g:=e;have:=ah.lt (u.tree 2 (by omega)).blk;omega)⟩
 have y:=J (mH 53 #[.pointer (some ⟨g,0,none⟩)] (M9 g) _ (JW g) i F (λj=>j=g) (s 2) d 2 st m p (by omega) [] [] none none 0 0 (MB.nil _) (by simp) (MB.nil _) ⟨l,rfl,λ_ N=>N⟩ (λj O x=>n (by rw[<-O];exact x)) L f D E v k);rw[nF]at y;obtain⟨H,z⟩:=I (iV f);have r:=EP f;rw[<-z]at r⊢;have P:i.cell? ⟨gc,3,none⟩=some (.pointer (some ⟨s 2,0,none⟩)):=b.blk.cell 3;have S:(w.alloc (.cells #[.int .i64 0] 3)).cell? ⟨gc,3,none⟩=some (.pointer (some ⟨s 2,0,none⟩)):=by rw[<-a];exact P
 have T:IntKind.i64.wrap ((H:Int)+1)=((H+1:Nat):Int):=by rw[IntWalk.i64_in _ (by omega)];rfl
 refine kT ?_ h u l c m b n p t a D E;clear h u l c m b n p t a D E;intro h u l c m b n p t a D E;replace v:Hid _:=J v;refine bf ?_ k z r;clear k z r;intro k z r;go_enter Tryz.func21,Tryz.ntmps21;go_upto_region 2 with(fail)
 rw[<-a.o,<-t.o];go_wp2_with fail;go_at_call 29;refine y.o.mono ?_;rintro e M ⟨rfl,Q,V,W,A,B,K,C⟩;have z0:M.cell? ⟨g,0,none⟩=some (.int .i64 (H:Int)):=by rw[z.o];exact B.1.cell 0
 have G:Hid (zG F w d st (H+1) (.returned (.tuple #[.int .i64 ((H+1:Nat):Int),.int .i64 0])) M):=J ⟨rfl,Q,A,rR t.o c.o C⟩;replace A:=J A;replace B:Hid _:=J B;replace K:=J K;replace C:=J C;clear y;go_wp2_with fail
 go_ret2
 exact G.o
end
section
open Go.RowKit
theorem mP{g:Type}{f:g->List Value}{a:Nat}(c:∀q,(f q).length=a):∀(b:List g) (i:Nat) (q:g) (j:Nat),b[i]?=some q->j<a->(b.flatMap f)[i*a+j]?=(f q)[j]?
 |[],i,q,j,h,_=>by simp at h
 |x::k,0,q,j,h,d=>by
  have e:x=q:=by simpa using h
  subst e
  rw[flatMap_cons,Nat.zero_mul,Nat.zero_add,bM (by rw[c];exact d)]
 |x::k,i+1,q,j,h,d=>by
  have ih:=mP c k i q j (by simpa using h) d
  have e:(i+1)*a=a+i*a:=by rw[succ_mul,Nat.add_comm]
  rw[flatMap_cons,getElem?_append_right (by rw[c,e];omega),c,<-ih,e]
  congr 1
  omega
theorem Rd.row{m:Type}{G:Nat->Prop}{w:World}{b n:Nat}{A:Option Addr}{a:List m}{f:m->List Value}(h:Rd G w b A n (a.flatMap f))(l:∀q,(f q).length=b)(o:0<b)(i:Nat)(q:m)(p:a[i]?=some q)(t:i<n):∃c,A=some c/\G c.block/\(∀u,(f q)[0]?=some u->w.cell? (c.add (i*b))=some u)/\∀j u,0<j->(f q)[j]?=some u->w.cell? ⟨(c.add (i*b)).block,(c.add (i*b)).off+j,none⟩=some u:=by
 obtain⟨c,e,s,r⟩:=h.2 (by omega);refine⟨c,e,s,λu g=>r _ u ?_,λj u v g=>?_⟩
 ·have:=mP l a i q 0 p o;rw[Nat.add_zero]at this;rw[this];exact g
 ·have k:=(ay.1 g).1;rw[l]at k;have d:=r (i*b+j) u (by rw[mP l a i q j p k];exact g);rw[<-jP]at d;generalize c.add (i*b)=x at d⊢;unfold Addr.add at d;rw[if_neg (by omega)]at d;exact d
theorem ER(a:List UInt8)(q:KV):(mi a q).length=9:=rfl
theorem ES(q:KV):(lG q).length=6:=rfl
theorem rT{b a:Nat}{f:KV->List Value}{F:Nat->Prop}{w':World}{A:Option Addr}{n c:Nat}{l:List KV}(h:w'.ownsRow 0 b a (.slice A n c) n (l.flatMap f))(d:∀k,(Value.slice A n c).ownBlock=some k->¬F k):Rd (bF F w') w' a A n (l.flatMap f):=Rd.oW h λk e g=>⟨g,d k e⟩
def Kz(st:aB)(a:cC):Prop:=∀(w:World) (F:Nat->Prop) (gc b:Nat) (c:Nat->Nat),ar w F b st->fD w F gc b c->iF w->
 Calls Tryz.prog 14 #[.pointer (some ⟨gc,0,none⟩),.string (str a.path)] w (xC F w b st (cQ a).toArray)
def JX(st:aB)(a:cC)(b:List KV):Prop:=∀(w:World) (F:Nat->Prop) (gc c:Nat) (d:Nat->Nat),ar w F c st->fD w F gc c d->
 Calls Tryz.prog 15 #[.pointer (some ⟨gc,0,none⟩),.agg (cQ a).toArray] w (oD 61 9 (mi a.path) F w c st b)
theorem zU(k id:Nat):∀(l:List aX) (no i:Nat) (f:aX),l[i]?=some f->(eV k id no l)[i]?=some (cO k id (no+i) f)
 |[],_,_,_,h=>by simp at h
 |x::a,no,0,f,h=>by
  have e:x=f:=by simpa using h
  subst e;rfl
 |x::a,no,i+1,f,h=>by
  have:=zU k id a (no+1) i f (by simpa using h)
  rw[eV,getElem?_cons_succ,this]
  congr 2
  omega
def fB(G:Nat->Prop)(w:World)(A:Option Addr)(b:List UInt8)(c:List aX):Prop:=
 ∀i f,c[i]?=some f->∃a,A=some a/\G a.block/\w.cell? (a.add (i*9))=some (.string (str b))/\w.cell? ⟨(a.add (i*9)).block,(a.add (i*9)).off+1,none⟩=some (.int .i64 (i:Int))/\
  w.cell? ⟨(a.add (i*9)).block,(a.add (i*9)).off+2,none⟩=some (.string (str f.name))/\w.cell? ⟨(a.add (i*9)).block,(a.add (i*9)).off+3,none⟩=some (.int .i64 (f.cI:Int))/\w.cell? ⟨(a.add (i*9)).block,(a.add (i*9)).off+4,none⟩=some (.int .i64 (f.gX:Int))/\
  w.cell? ⟨(a.add (i*9)).block,(a.add (i*9)).off+5,none⟩=some (.int .u32 (f.crc:Int))/\w.cell? ⟨(a.add (i*9)).block,(a.add (i*9)).off+6,none⟩=some (.int .i64 (f.bR:Int))/\w.cell? ⟨(a.add (i*9)).block,(a.add (i*9)).off+7,none⟩=some (.int .i64 (f.size:Int))/\w.cell? ⟨(a.add (i*9)).block,(a.add (i*9)).off+8,none⟩=some (.int .i64 (f.at_:Int))
theorem qD{G:Nat->Prop}{w:World}{A:Option Addr}{n id:Nat}{a:List UInt8}{d:List aX}(h:Rd G w 9 A n ((eV 1 id 0 d).flatMap (mi a)))(r:n=d.length)(j:∀f∈d,f.ok/\gH f.c=true)(s:d.length<=1000):fB G w A a d:=λi f g=>by have t:=(ay.1 g).1;obtain⟨m,o⟩:=j f (bu g);have k:=zU 1 id d 0 i f g;rw[Nat.zero_add]at k;obtain⟨p,e,q,l,b⟩:=h.row (ER a) (by omega) i _ k (by omega);rw[zQ (vC m o) a id i (by omega)]at l b;exact⟨p,e,q,l _ rfl,b 1 _ (by omega) rfl,b 2 _ (by omega) rfl,b 3 _ (by omega) rfl,b 4 _ (by omega) rfl,b 5 _ (by omega) rfl,b 6 _ (by omega) rfl,b 7 _ (by omega) rfl,b 8 _ (by omega) rfl⟩
theorem fB.ev{F g:Nat->Prop}{w w':World}{A:Option Addr}{d:List UInt8}{j:List aX}(h:fB (bF F w) w A d j)(k:Ev F w g w'):fB (bF g w') w' A d j:=λi f m=>by obtain⟨a,e,l,n,o,q,r,s,t,u,v,x⟩:=h i f m;have b:(a.add (i*9)).block=a.block:=cF _ _;have c:∀p:Addr,p.block=a.block->w'.cell? p=w.cell? p:=λp y=>World.cell?_of_block (by rw[y];exact k.block l);exact⟨a,e,k.mine l,(c _ b).trans n,(c ⟨(a.add (i*9)).block,(a.add (i*9)).off+1,none⟩ b).trans o,(c ⟨(a.add (i*9)).block,(a.add (i*9)).off+2,none⟩ b).trans q,(c ⟨(a.add (i*9)).block,(a.add (i*9)).off+3,none⟩ b).trans r,(c ⟨(a.add (i*9)).block,(a.add (i*9)).off+4,none⟩ b).trans s,(c ⟨(a.add (i*9)).block,(a.add (i*9)).off+5,none⟩ b).trans t,(c ⟨(a.add (i*9)).block,(a.add (i*9)).off+6,none⟩ b).trans u,(c ⟨(a.add (i*9)).block,(a.add (i*9)).off+7,none⟩ b).trans v,(c ⟨(a.add (i*9)).block,(a.add (i*9)).off+8,none⟩ b).trans x⟩
theorem Ic(w:World)(F:Nat->Prop)(gc p:Nat)(D:Nat->Nat)(st bg dC ja:aB)(h:ar w F p st)(am:fD w F gc p D)(K:iF w)(Y:¬F 2)(a:cC)(ba:a.ok)(E:Kz st a)(u:JX st a (eV 1 a.id 0 a.files))(H:Left a.id st 0 a.files bg)(an:oC bg 2 (aP [(a.id:Int)]) dC)(L:oC dC 0 (bK [str a.path]) ja):Calls Tryz.prog 16 #[.pointer (some ⟨gc,0,none⟩),.string (str a.path)] w (cG F w p ja (.int .i64 0)):=by
 have bp:=J (E w F gc p D h am K);have cv:(str a.path).size<=1000:=by rw[dV];have:=ba.path;omega
 have br:=ba.many;have ao:=jN 1 a.id a.files 0;have bs:Hid (∀(G:Nat->Prop) (t:World) (A:Option Addr) (n:Nat),n=a.files.length->Rd G t 9 A n ((eV 1 a.id 0 a.files).flatMap (mi a.path))->fB G t A a.path a.files):=J λG t A n a0 b8=>qD b8 a0 ba.files br;have cY:Hid (∀f∈a.files,f.ok/\gH f.c=true):=J ba.files;have bb:=J (nz _:(aP [(a.id:Int)]).length=6);obtain⟨ap,s0,s1,s2,s4,B⟩:=a;simp only[cQ,JX]at *;obtain⟨eb,bv⟩:=I (eV 1 s2 0 B);rw[<-bv]at u bs ao;obtain⟨n,a0⟩:=I (B.length);rw[<-a0]at u ao bp bs br;obtain⟨i,l⟩:=I (str ap);have c0:Hid (∀(t:World) (g:Nat),ah t g 9 #[.string i]->iF t->Calls Tryz.prog 23 #[.slice none 0 0,.slice (some ⟨g,0,none⟩) 1 1] t (dH t (bK [i]))):=J λt g de dj=>zL t g i de (by rw[l];exact cv) dj;rw[<-l]at bp u L⊢;have cm:Hid _:=J u;refine aR ?_ u l bv h am K Y ba E H an L a0;clear u l bv h am K Y ba E H an L a0;intro u l bv h am K Y ba E H an L a0;replace ao:=J ao;clear cv;go_enter Tryz.func16,Tryz.ntmps16;go_wp2_with fail;go_at_call 14;refine bp.o.mono ?_;rintro e b9 ⟨rfl,cn,a1,a2⟩;obtain⟨x,Z⟩:=I (b9.heap.size);obtain⟨ca,M⟩:=I (b9.alloc (.cells #[.string i,.int .i64 (s0:Int),.int .i64 (s1:Int),.int .i64 (s2:Int),.int .i64 (n:Int),.int .i64 (s4:Int)] 54));have bx:ar ca cn p st:=by rw[M];exact a1.alloc _
 have a3:Ev F w cn ca:=by rw[M];exact a2.az _
 have r:ah ca x 54 #[.string i,.int .i64 (s0:Int),.int .i64 (s1:Int),.int .i64 (s2:Int),.int .i64 (n:Int),.int .i64 (s4:Int)]:=by rw[M,Z];exact ah.new b9 54 _
 have N:¬cn x:=λdk=>by have:=a1.lt _ dk;omega
 have bc:w.heap.size<=x:=by rw[Z];exact a2.size
 have cw:=J (cm.o ca cn gc p D bx (am.o.ev a3));have dl:=r.cell 0;have dp:=r.cell 1;have ds:=r.cell 2;have y3:=r.cell 3;have y4:=r.cell 4;have dt:=r.cell 5;have cE:Hid (b9.alloc (.cells #[.string i,.int .i64 (s0:Int),.int .i64 (s1:Int),.int .i64 (s2:Int),.int .i64 (n:Int),.int .i64 (s4:Int)] 54)=ca):=J M.symm;have cH:Hid (b9.heap.size=x):=J Z.symm;refine ik ?_ M Z a1 a2 bx a3 r N bc;clear M Z a1 a2 bx a3 r N bc;intro M Z a1 a2 bx a3 r N bc;clear bp;go_upto_region 6 with(fail)
 rw[cE.o,cH.o];go_wp2_with fail;go_at_call 15;refine cw.o.mono ?_;rintro e bd ⟨A,c,rfl,c1,bA,ab,y,O⟩;rw[ao.o]at y O⊢;have cb:=bs.o _ bd A n rfl (rT y O);have be:Ev F w c1 bd:=a3.o.trans ab;have cx:Hid (∃(d:Nat->Prop),ar bd d p st/\Ev F w d bd/\Left s2 st 0 (B.drop 0) bg/\fB (bF d bd) bd A ap B/\ah bd x 54 #[.string i,.int .i64 (s0:Int),.int .i64 (s1:Int),.int .i64 (s2:Int),.int .i64 (n:Int),.int .i64 (s4:Int)]/\¬d x):=J ⟨c1,bA,be,H.o,cb,ab.blk r.o N.o,ab.new N.o r.o.lt⟩;refine bz ?_ bA ab y O;clear bA ab y O;intro bA ab y O;replace cb:Hid _:=J cb;replace be:=J be;clear cw bs dl dp ds y3 y4 dt;have d5:(n:Int)<=1000:=by omega
 go_wp2_with fail;go_loopw [39] (λv t=>∃(j:Nat) (co:aB),j<=n/\v=.int .i64 (j:Int)/\Hid (∃d,ar t d p co/\Ev F w d t/\Left s2 co j (B.drop j) bg/\fB (bF d t) t A ap B/\ah t x 54 #[.string i,.int .i64 (s0:Int),.int .i64 (s1:Int),.int .i64 (s2:Int),.int .i64 (n:Int),.int .i64 (s4:Int)]/\¬d x)) (λv _=>n-(intOf v).toNat)
 case atStart=>exact⟨0,st,by omega,rfl,cx⟩
 case round=>
  obtain⟨j,co,ec,rfl,cK⟩:=hrel;obtain⟨d,z,m,bB,ac,s,C⟩:=cK.o;clear cx;by_cases c2:j<n
  ·have d6:(j:Int)<(n:Int):=by omega
   have d7:(0:Int)<=(j:Int):=by omega
   have b0:j<B.length:=by have:=a0.o;omega
   obtain⟨f,b6⟩:∃f,B[j]?=some f:=⟨_,ak b0⟩;obtain⟨b1,d8⟩:=cY.o f (bu b6);have cc:B.drop j=f::B.drop (j+1):=by rw[drop_eq_getElem_cons b0];rw[ak b0]at b6;rw[Option.some.inj b6]
   obtain⟨du,rfl,_,c3,dv,dy,dT,d0,c5,d1,d2,d3⟩:=ac j f b6;rw[<-l.o]at c3;rw[cc]at bB;cases bB with
   |cons _ _ S _ _ _ c4 P b8=>
    have y3:(wr.alloc (.cells (fw ap j f).toArray 61)).cell? ⟨x,3,none⟩=some (.int .i64 (s2:Int)):=(s.alloc _).cell 3
    have ce:=K.o.mine Y.o
    have cf:=J (EN (wr.alloc (.cells (fw ap j f).toArray 61)) d gc p D co S (z.alloc _) (am.o.ev (m.az _)) (K.o.ev (m.az _) Y.o) (m.mine ce).2 f b1 s2 j ap c4 P (λb _=>lZ f b1 b))
    have cg:=m.az (.cells (fw ap j f).toArray 61)
    have Q:Ev d wr d (wr.alloc (.cells (fw ap j f).toArray 61)):=(Ev.refl d wr).az _
    have ad:Hid (∀b7 V,Ev d (wr.alloc (.cells (fw ap j f).toArray 61)) b7 V->ar V b7 p (S 4)->∃d,ar V d p (S 4)/\Ev F w d V/\Left s2 (S 4) (j+1) (B.drop (j+1)) bg/\fB (bF d V) V (some du) ap B/\ah V x 54 #[.string i,.int .i64 (s0:Int),.int .i64 (s1:Int),.int .i64 (s2:Int),.int .i64 (n:Int),.int .i64 (s4:Int)]/\¬d x):=J λb7 V T b2=>⟨b7,b2,cg.trans T,b8,ac.ev (Q.trans T),(Q.trans T).blk s C,(Q.trans T).new C s.lt⟩
    obtain⟨ee,ef,eg,eh,ei,ej,at_⟩:=f
    simp only[fw]at *
    rw[<-l.o]at cf y3 ad
    replace b8:=J b8
    replace z:=J z
    replace m:=J m
    replace b6:=J b6
    replace cc:=J cc
    replace b1:=J b1
    replace ce:=J ce
    replace ac:Hid _:=J ac
    replace s:=J s
    replace C:=J C
    replace cg:=J cg
    replace Q:=J Q
    clear b0 c4 P
    go_wp2_with fail
    go_at_call 42
    refine cf.o.mono ?_
    rintro e V ⟨rfl,b7,b2,T⟩
    have c6:=J (ad.o b7 V T b2)
    clear cf c3 dv dy dT d0 c5 d1 d2 d3 y3 b2 T
    go_wp2_with fail
    go_roundw
    case rel=>exact⟨j+1,S 4,by omega,by congr 1,c6⟩
    case measure=>simp[intOf];omega
  ·obtain rfl:j=n:=by omega
   have cy:B.drop j=[]:=drop_eq_nil_of_le (by have:=a0.o;omega);rw[cy]at bB;cases bB;obtain⟨a4,b3⟩:=I (wr);rw[<-b3]at z m s cK⊢;have ae:=am.o.ev m;have c7:a4.cell? ⟨gc,3,none⟩=some (.pointer (some ⟨D 2,0,none⟩)):=ae.blk.cell 3;have y3:a4.cell? ⟨x,3,none⟩=some (.int .i64 (s2:Int)):=s.cell 3;have ad:Hid (∀w' ch,Ev d a4 ch w'->w'.cell? ⟨gc,3,none⟩=some (.pointer (some ⟨D 2,0,none⟩))/\w'.cell? ⟨x,3,none⟩=some (.int .i64 (s2:Int))):=J λW ch cp=>⟨(ae.ev cp).blk.cell 3,(cp.blk s C).cell 3⟩;have cr:=J z.lt;obtain⟨c8,a5⟩:=I (aP [(s2:Int)]);rw[<-a5]at an bb;have hd2':Hid (∀(w:World) (F:Nat->Prop) (gt p:Nat) (ci:Option Addr) (cL:Nat),ar w F p bg->aL w F gt p 2->MB F w ci 6 c8->
    Calls Tryz.prog 43 #[.pointer (some ⟨gt,0,none⟩),.slice ci 6 cL] w (cG F w p dC (.tuple #[.bool true,.int .i64 0]))):=J (by
    have q:=an.o;unfold oC at q;rw[bb.o]at q;exact q)
   obtain⟨cM,a6⟩:=I (bK [i]);have L:=J (by rw[a6];exact L.o:oC dC 0 cM ja);have c9:=J z;have cP:=J m;refine bX ?_ ae z m s C;clear ae z m s C;intro ae z m s C;replace ac:Hid _:=J ac;refine bf ?_ a5 a6 b3;clear a5 a6 b3;intro a5 a6 b3;clear cK c2 cy;go_wp2_with fail;go_upto_region 16 with(fail)
   go_region_held3 (λw'=>w'.cell? ⟨gc,3,none⟩=some (.pointer (some ⟨D 2,0,none⟩))/\w'.cell? ⟨x,3,none⟩=some (.int .i64 (s2:Int))) (first|exact⟨c7,y3⟩|(exact ad.o _ _ cz.o)|(exact ad.o _ d (Ev.ag (by with_reducible first|exact b4.o)))|go_keep) (first
    |(go_at_call 25;refine(eC _ none 0 0 _ [] 3 [(s2:Int)] #[.int .i64 (s2:Int)] (RB.nil _ _) (by with_reducible first|exact(ah.new _ _ _).drew|exact ah.new _ _ _) rfl (by omega) (by simp)).mono ?_;rintro e da ⟨ek,rfl,a7,cj⟩;rw[nil_append,<-a5.o,bb.o]at a7;have b4:Hid (Below a4.heap.size a4 da):=J (Below.trans (by with_reducible first|exact((Below.refl _ a4).alloc (aa _) _).drew|exact(Below.refl _ a4).drew) (cj.mono (by simp<;>omega)));obtain⟨ci,cL,rfl,_,_,d9,_⟩:=a7.form;have cS:=J (MB.made a7 (λk cV=>by have:=cr.o k cV;simp<;>omega):MB d da ci 6 c8);replace a7:=J a7;replace cj:=J cj)
    |(go_at_call 43;refine(hd2'.o _ d (D 2) p ci cL (by with_reducible first|exact c9.o.below b4.o) (by with_reducible first|exact(ae.o.tree 2 (by omega)).ev (Ev.ag b4.o)) (by with_reducible first|exact cS.o)).mono ?_;rintro e X ⟨rfl,af,al,bi⟩;have cz:Hid (Ev d a4 af X):=J (by with_reducible first|exact(Ev.ag b4.o).trans bi);replace al:=J al;replace bi:=J bi))
   all_goals
    have U:=cP.o.trans cz.o;have a8:=am.o.ev U;have cA:X.cell? ⟨gc,1,none⟩=some (.pointer (some ⟨D 0,0,none⟩)):=a8.blk.cell 1;have bj:Hid (∀w' ch,Ev af X ch w'->w'.cell? ⟨gc,1,none⟩=some (.pointer (some ⟨D 0,0,none⟩))):=J λW ch cp=>(a8.ev cp).blk.cell 1;have cs:=J al.o.lt;have cX:=J (K.o.ev U Y.o);replace a8:=J a8;replace U:=J U;clear ad c7 y3;go_wp2_with fail;go_upto_region 19 with(fail)
    go_region_held3 (λw'=>w'.cell? ⟨gc,1,none⟩=some (.pointer (some ⟨D 0,0,none⟩))) (first|exact cA|(exact bj.o _ _ ck.o)|(exact bj.o _ af (Ev.ag (by with_reducible first|exact b5.o)))|go_keep) (first
     |(go_at_call 23;refine(c0.o _ _ (by with_reducible first|exact(ah.new _ _ _).drew|exact ah.new _ _ _) (cX.o.below (by with_reducible first|exact((Below.refl _ X).alloc (aa _) _).drew|exact(Below.refl _ X).drew))).mono ?_;rintro e db ⟨el,rfl,a9,cl⟩;rw[<-a6.o]at a9;have b5:Hid (Below X.heap.size X db):=J (Below.trans (by with_reducible first|exact((Below.refl _ X).alloc (aa _) _).drew|exact(Below.refl _ X).drew) (cl.mono (by simp<;>omega)));obtain⟨dc,d4,rfl,_,_,ea,_⟩:=a9.form;have dd:=J (MB.made a9 (λk cV=>by have:=cs.o k cV;simp<;>omega):MB af db dc cM.length cM);replace a9:=J a9;replace cl:=J cl)
     |(go_at_call 43;refine(L.o _ af (D 0) p dc d4 (by with_reducible first|exact al.o.below b5.o) (by with_reducible first|exact(a8.o.tree 0 (by omega)).ev (Ev.ag b5.o)) (by with_reducible first|exact dd.o)).mono ?_;rintro e cB ⟨rfl,cD,bl,bm⟩;have ck:Hid (Ev af X cD cB):=J (by with_reducible first|exact(Ev.ag b5.o).trans bm);replace bl:=J bl;replace bm:=J bm))
    all_goals
     have ct:Hid (cG F w p ja (.int .i64 0) (.returned (.int .i64 0)) cB):=J ⟨rfl,cD,bl.o,U.o.trans ck.o⟩;clear bj cA;go_wp2_with fail;go_ret;exact ct.o
end
end Go.Proofs.YtajdeapdgbnahaaGreatDoor
