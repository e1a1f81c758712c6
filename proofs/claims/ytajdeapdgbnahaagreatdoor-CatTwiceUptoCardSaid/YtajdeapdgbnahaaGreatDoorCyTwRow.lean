/- Arguments. -/
import Derived.Test.YtajdeapdgbnahaaGreatDoorCyRow
import Derived.Test.YtajdeapdgbnahaaGreatDoorCyGr44
import Derived.Deep.Strs
namespace Go.Proofs.YtajdeapdgbnahaaGreatDoor
set_option linter.unusedVariables false
set_option maxRecDepth 100000
open Go.ChangeShapes Go.WideShapes Go.ChangeAt Go.RowKit Go.Deep
open List Nat
theorem kD{b:Type}{n:Nat}{l:List b}(h:l.length=n+1):∃a t,l=a::t/\t.length=n:=by
 cases l with
 |nil=>simp at h
 |cons a t=>exact⟨a,t,rfl,by simpa using h⟩
theorem I5{r:Type}(l:List r)(h:l.length=7):∃a b c d e f g,l=[a,b,c,d,e,f,g]:=by obtain⟨a,s,rfl,i⟩:=kD h;obtain⟨b,t,rfl,j⟩:=kD i;obtain⟨c,u,rfl,k⟩:=kD j;obtain⟨d,v,rfl,m⟩:=kD k;obtain⟨e,w,rfl,n⟩:=kD m;obtain⟨f,x,rfl,o⟩:=kD n;obtain⟨g,p,rfl,q⟩:=kD o;obtain rfl:p=[]:=bT q;exact⟨a,b,c,d,e,f,g,rfl⟩
theorem rW{H:Type}{d:DataW H}{l:List (DataW H)}(h:d∈l):Rows.uptoBulk d<=Rows.uptoBulkAll l:=by
 induction l with
 |nil=>cases h
 |cons x a ih=>
  simp only[Rows.uptoBulkAll]
  cases mem_cons.1 h with
  |inl e=>subst e;omega
  |inr e=>have:=ih e;omega
theorem Ai{H:Type}{d:DataW H}{l a:List (DataW H)}(h:d∈l):Rows.uptoBulk d<=Rows.uptoBulk (.slice l a):=by have:=rW h;simp only[Rows.uptoBulk];omega
theorem Aj{H:Type}(s:List UInt8)(l:List (DataW H)):s.length<=Rows.uptoBulk (.agg (.lit (.string s)::l)):=by simp only[Rows.uptoBulk,Rows.uptoBulkAll];omega
def xK(w:World)(A:Option Addr)(i:Nat)(f:jE):Prop:=
 (∃a,A=some a/\a.block<w.heap.size/\w.cell? (a.add (i*7))=some (.string (str f.name))/\w.cell? ⟨(a.add (i*7)).block,(a.add (i*7)).off+1,none⟩=some (.int .i64 f.cI)/\w.cell? ⟨(a.add (i*7)).block,(a.add (i*7)).off+2,none⟩=some (.int .i64 f.gX)/\
  w.cell? ⟨(a.add (i*7)).block,(a.add (i*7)).off+3,none⟩=some (.int .u32 f.crc)/\w.cell? ⟨(a.add (i*7)).block,(a.add (i*7)).off+4,none⟩=some (.int .i64 f.bR)/\w.cell? ⟨(a.add (i*7)).block,(a.add (i*7)).off+5,none⟩=some (.int .i64 f.size)/\w.cell? ⟨(a.add (i*7)).block,(a.add (i*7)).off+6,none⟩=some (.int .i64 f.at_))/\f.name.length<=1048576/\0<=f.crc/\f.crc<=4294967295
theorem vN{w:World}{A:Option Addr}{n c:Nat}(e:n<=c)(h:∀i,i<n->∃f,xK w A i f):∃j,mw w A n c j:=by
 have k:∀i:Nat,∃f:jE,i<n->xK w A i f:=λi=>by
  by_cases a:i<n
  ·obtain⟨f,b⟩:=h i a;exact⟨f,λ_=>b⟩
  ·exact⟨⟨[],0,0,0,0,0,0⟩,λl=>absurd l a⟩
 obtain⟨g,d⟩:=Classical.axiomOfChoice k;refine⟨(List.range n).map g,by simp,e,λi f b=>?_,λf b=>?_⟩
 ·have a:=(ay.1 b).1;simp at a;rw[getElem?_map,getElem?_range a]at b;simp at b;rw[<-b];exact(d i a).1
 ·obtain⟨i,a,rfl⟩:=aM.1 b;exact(d i (mem_range.1 a)).2
theorem Ao{H:Type}{enc:TypeId×Value->H}{w:World}{base:Nat}{spare:Nat->Bool}{held:Bool}{t:Nat}{A:Option Addr}{len cap:Nat}{x:DataW H×List MemPlace}(h:DataW.trod enc Tryz.prog w base spare held t 22 [.slice A len cap]=some x) (af:Rows.uptoBulk x.1<=1048576):∃o,mw w A len cap o/\cap<=maxLen:=by
 rcases open_slice Tryz.underlying22 h with⟨b,-⟩|⟨a,l,c,m,n,D,bj,Q,-,al,S,T,rfl,u⟩
 ·injection b with b _;injection b with p q r;subst p q r;obtain⟨o,y⟩:=vN (w:=w) (A:=none) (n:=0) (c:=0) (aa _) (λi u=>absurd u (by omega));exact⟨o,y,zero_le _⟩
 ·injection Q with b _;injection b with p q r;subst p q r;suffices am:∀i,i<len->∃f,xK w (some a) i f by obtain⟨o,y⟩:=vN al am;exact⟨o,y,S⟩
  intro i U;have V:i<m:=by rw[T];split<;>omega
  obtain⟨an,W,X⟩:=u i V;have ao:Tryz.prog.cellsOf 49=7:=by kernel_rfl
  rw[ao]at W;obtain⟨-,Y,s⟩:=World.cells?_some W;obtain⟨ap,a1,a2,a3,a4,c5,a5,rfl⟩:=I5 an Y;obtain⟨xs,d,-,a6,-,Z,e⟩:=DataW.trod_struct Tryz.underlying49 X;obtain⟨a7,z,B,y3,y4,C,E,rfl⟩:=I5 xs Z;have t0:DataW.trod enc Tryz.prog w base spare held d 9 [ap]=some a7:=e 0 _ rfl;have a8:DataW.trod enc Tryz.prog w base spare held d 3 [a1]=some z:=e 1 _ rfl;have a9:DataW.trod enc Tryz.prog w base spare held d 3 [a2]=some B:=e 2 _ rfl;have t3:DataW.trod enc Tryz.prog w base spare held d _ [a3]=some y3:=e 3 _ rfl;have t4:DataW.trod enc Tryz.prog w base spare held d 3 [a4]=some y4:=e 4 _ rfl;have t5:DataW.trod enc Tryz.prog w base spare held d 3 [c5]=some C:=e 5 _ rfl;have ba:DataW.trod enc Tryz.prog w base spare held d 3 [a5]=some E:=e 6 _ rfl;obtain⟨s0,F,bb,-⟩:=DataW.trod_string Tryz.underlying9 t0;obtain⟨ab,G,-⟩:=DataW.trod_int Tryz.underlying3 a8;obtain⟨ac,K,-⟩:=DataW.trod_int Tryz.underlying3 a9;obtain⟨z3,L,-,bc⟩:=DataW.trod_int (k:=.u32) (by kernel_rfl) t3;obtain⟨z4,M,-⟩:=DataW.trod_int Tryz.underlying3 t4;obtain⟨z5,N,-⟩:=DataW.trod_int Tryz.underlying3 t5;obtain⟨ad,O,-⟩:=DataW.trod_int Tryz.underlying3 ba;injection F with F _;injection G with G _;injection K with K _;injection L with L _;injection M with M _;injection N with N _;injection O with O _;subst F G K L M N O;have bd:D i=.agg (.lit (.string s0.data.toList)::[z,B,y3,y4,C,E].map (·.1)):=by have:=congrArg (·.1) a6;rw[bb]at this;exact this
  have ae:s0.data.toList.length<=1048576:=by
   have p:=Aj s0.data.toList ([z,B,y3,y4,C,E].map (·.1));rw[<-bd]at p;have q:Rows.uptoBulk (D i)<=Rows.uptoBulk (DataW.slice ((List.range len).map D) ((List.range (m-len)).map λj=>D (len+j))):=Ai (aM.2 ⟨i,mem_range.2 U,rfl⟩)
   have r:Rows.uptoBulk (DataW.slice ((List.range len).map D) ((List.range (m-len)).map λj=>D (len+j)))<=1048576:=af;omega
  have bl:str s0.data.toList=s0:=rfl;have a0:w.cell? (a.add (i*7))=some (.string s0):=by have:=s 0 (by decide);rw[show(a.add (i*7)).add 0=a.add (i*7)from if_pos rfl]at this;exact this
  have g:∀(j:Nat) (v:Value),j≠0->j<7->([Value.string s0,.int .i64 ab,.int .i64 ac,.int .u32 z3,.int .i64 z4,.int .i64 z5,.int .i64 ad]:List Value)[j]?=some v->w.cell? ⟨(a.add (i*7)).block,(a.add (i*7)).off+j,none⟩=some v:=by intro j v b be bi;have:=s j be;rw[show(a.add (i*7)).add j=⟨(a.add (i*7)).block,(a.add (i*7)).off+j,none⟩from by unfold Addr.add;rw[if_neg b]]at this;rw[this];exact bi
  have P:a.block<w.heap.size:=by
   have:=kS a0
   rwa [cF]at this
  simp[Lit.wf,IntKind.min,IntKind.max,IntKind.signed,IntKind.bits]at bc;refine⟨⟨s0.data.toList,ab,ac,z3,z4,z5,ad⟩,⟨a,rfl,P,a0,g 1 _ (by decide) (by decide) rfl,g 2 _ (by decide) (by decide) rfl,g 3 _ (by decide) (by decide) rfl,g 4 _ (by decide) (by decide) rfl,g 5 _ (by decide) (by decide) rfl,g 6 _ (by decide) (by decide) rfl⟩,ae,?_,?_⟩
  ·show 0<=z3;omega
  ·show z3<=4294967295;omega
end Go.Proofs.YtajdeapdgbnahaaGreatDoor
