/-
  Contract of key.Text.
-/
import Derived.Test.YtajdeapdgbnahaaGreatDoorCyGr20
namespace Go.Proofs.YtajdeapdgbnahaaGreatDoor
set_option linter.unusedVariables false
set_option maxRecDepth 100000
set_option maxHeartbeats 1000000
open Go.RowKit
open List Nat
def RS(w:World)(B:Nat)(A:Option Addr)(n:Nat)(l:List ByteArray):Prop:=Reads w B 1 A n (l.map Value.string)
section
variable {w w':World}{B B' n:Nat}{A:Option Addr}{l:List ByteArray}
theorem RS.len(h:RS w B A n l):l.length=n:=by have:=h.1;simpa using this
theorem RS.elem(h:RS w B A n l){k:Nat}(d:k<n)(f:k<l.length):∃b,A=some b/\b.block<B/\w.cell? (b.add k)=some (.string l[k]):=by obtain⟨b,u,e,g,c,i⟩:=Reads.at_ h d;rw[getElem?_map,ak f]at c;injection c with c;subst c;exact⟨b,e,g,i⟩
theorem RS.below(h:RS w B A n l)(b:Below B w w'):RS w' B A n l:=Reads.below h b
end
def bK(b:List ByteArray):List UInt8:=b.flatMap λt=>df t.data.toList
theorem Ah(b:List ByteArray)(k:Nat)(h:k<b.length):bK (b.take (k+1))=bK (b.take k)++df b[k].data.toList:=by unfold bK;rw[take_succ_eq_append_getElem h,flatMap_append];simp
theorem xJ(s:List UInt8):s.flatMap (tY 0 [0,255])=s.flatMap iG:=rfl
theorem pQ(s:List UInt8):(df s).length<=2*s.length+2:=by have:=Cw 0 [0,255] (by decide) s;rw[xJ]at this;rw[df,aq];simp only[length_cons,length_nil];omega
section
variable {ops:Array Oper}{rest:List Oper}{o:Oper}{a:Act}{Q:Exit->Act->World->Prop}
theorem pY{w:World}(e:o.guard=none)(s x:Operand)(p:o.op=.call { callee:=.builtin .append,args:=#[s,x],argTypes:=#[23,9] })
 (base:Nat) (v:Value) (n:Nat) (l:List UInt8) (c:OB w base v n l) (q:a.eval s=v) (z:ByteArray) (r:a.eval x=.string z)
 (t:n+z.size<=140737488351232) (b:base<=w.heap.size)
 (h:∀d w',OB w' base d (n+z.size) (l++z.data.toList)->Below base w w'->wpList Tryz.prog ops Q rest (a.put o.dst d) w'):
 wpList Tryz.prog ops Q (o::rest) a w:=by
 obtain⟨i0,f,g,i,j⟩:=info_parts eB;refine Lib.wpList_append_own_string w e s x _ _ p base 5 i0 Tryz.underlying23 Tryz.underlying9 f g i j v n (bv l) q c z r
  (by simp only[maxLen];omega) (by omega) b λd w' m u C=>?_
 rw[show Lib.strCells z=bv z.data.toList from rfl,<-fM]at m;exact h d w' m ((Below.refl _ _).grown u b λk y=>c.iR k y)
end
theorem ny(A B:Option Addr)(n C c d:Nat)(xs:List UInt8)(f:List ByteArray)(m:Int)(w:World)(U:RB w w.heap.size A n xs)(V:RS w w.heap.size B C f)(a9:n<=100000) (ba:C<=1000) (am:∀t∈f,t.size<=1000) (an:2<w.heap.size) (ao:w.cell? ⟨2,0,none⟩=some (.int .i64 m)):Calls Tryz.prog 23 #[.slice A n c,.slice B C d] w (dH w (xs++bK f)):=by
 have K:=J U.len;have L:=J V.len;have ap:=J U;have a0:=J V;clear U V;go_enter Tryz.func23,Tryz.ntmps23;go_wp2_with fail;refine(og _ _ _ _ _ ap.o (by omega)).mono ?_;rintro e bb ⟨v1,rfl,g,ac⟩;rw[K.o]at g;replace g:=J g;go_wp2_with fail;go_loopw [5,12] (λv i wr=>∃k:Nat,k<=C/\i=.int .i64 (k:Int)/\Hid (OB wr w.heap.size v (xs++bK (f.take k)).length (xs++bK (f.take k))/\(xs++bK (f.take k)).length<=n+2002*k)/\Below w.heap.size w wr) (λ_ i _=>C-(intOf i).toNat)
 case atStart=>
  refine⟨0,by omega,rfl,?_,ac⟩;have:xs++bK (f.take 0)=xs:=by simp[bK]
  rw[this,K.o];exact⟨g.o,by omega⟩
 case round=>
  obtain⟨k,bc,rfl,F,q⟩:=hrel;by_cases a1:k<C
  ·have M:k<f.length:=by have:=L.o;omega
   obtain⟨bd,rfl,a4,be⟩:=(a0.o.below q).elem a1 M;have a5:=am f[k] (getElem_mem _);have ad:=J (Ah f k M);have N:wr.cell? ⟨2,0,none⟩=some (.int .i64 m):=(q.cell (p:=⟨2,0,none⟩) an).trans ao;have ae:=q.size;generalize f[k]=b at *;obtain⟨u,a6⟩:=F.o;replace u:=J u;clear F;have af:Lib.countB b ⟨#[0]⟩<=b.size+1:=by rw[<-iM];exact Lib.count_le _ _
   have O:=J ((sj 0 [0,255] b.data.toList rfl).trans (xJ b.data.toList));go_wp2_with fail;refine(Tryz.strings_ReplaceAll b ⟨#[0]⟩ ⟨#[0,255]⟩ m wr (by omega) N (by decide) (by show b.size+_*2<=_;omega)).mono ?_;rintro e bi ⟨rfl,D⟩;rw[show(ByteArray.mk (Lib.replaceAll b.data.toList (ByteArray.mk #[0]).data.toList (ByteArray.mk #[0,255]).data.toList).toArray)=str (b.data.toList.flatMap iG)from congrArg str O.o];have a7:(str (b.data.toList.flatMap iG)).size<=2000:=by rw[dV];have:=Cw 0 [0,255] (by decide) b.data.toList;rw[xJ]at this;have:=iM b;omega
   have x:=u.o.below D (aa _);have r:=q.trans (D.mono ae);have W:=r.size;have X:=J (fW (b.data.toList.flatMap iG));have Y:Hid (b.data.toList.flatMap iG++[0,1]=df b.data.toList):=rfl;clear u O af D q N;have a8:(xs++bK (f.take k)).length<=2102000:=by omega
   generalize G:xs++bK (f.take k)=P at *;replace G:=J G;generalize str (b.data.toList.flatMap iG)=z at *;replace x:=J x;go_wp2_with(at_builtin;refine pY ?_ (.tmp 16) (.tmp 18) ?_ w.heap.size u5 P.length P x.o ?_ z ?_ ?_ ?_ ?_);rfl;rfl;rfl;rfl;omega;exact W;intro v4 bj y S;have s:=r.trans S;have Z:=s.size;replace y:=J y;clear x r S;go_wp2_with(at_builtin;refine pY ?_ (.tmp 20) (.const (.string ⟨#[0,1]⟩)) ?_ w.heap.size v4 (P.length+z.size) (P++z.data.toList) y.o ?_ ⟨#[0,1]⟩ ?_ ?_ ?_ ?_);rfl;rfl;rfl;rfl;show P.length+z.size+2<=_;omega;exact Z;intro v5 bl j T;have ab:=s.trans T;rw[X.o]at j;try simp only[av]at j
   rw[Y.o,<-G.o,av,<-ad.o]at j;replace j:=J j;clear y s T;go_wp2_with fail;go_roundw
   case rel=>have H:=j.o.len;refine⟨k+1,by omega,by go_num,⟨by rw[H];exact j.o,?_⟩,ab⟩;have a2:=congrArg List.length ad.o;have a3:=congrArg List.length G.o;have bm:=pQ b.data.toList;have bp:=iM b;simp only[aq]at a2 a3⊢;omega
   case measure=>simp[intOf];omega
  ·have al:k=C:=by omega
   subst al;have E:f.take k=f:=by rw[bQ (by have:=L.o;omega)]
   rw[E]at F;clear E;go_wp2_with fail;go_ret;exact dH.mk F.o.1 q
end Go.Proofs.YtajdeapdgbnahaaGreatDoor
