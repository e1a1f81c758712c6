/-
  Rows of ints that hold natural numbers: what came in, what a call owns; append, store, make (XInts without the sorting's words).
-/
import Derived.Test.YtajdeapdgbnahaaGreatDoorCyGr3
import Derived.Lib.OwnBridge
namespace Go.Proofs.YtajdeapdgbnahaaGreatDoor
set_option linter.unusedVariables false
set_option maxRecDepth 100000
set_option maxHeartbeats 1000000
open Go.RowKit
open List Nat
def encI(n:Nat):Value:=.int .i64 (n:Int)
def RN(w:World)(B:Nat)(A:Option Addr)(n:Nat)(l:List Nat):Prop:=Reads w B 1 A n (l.map encI)
section
variable {w w':World}{B B' base n:Nat}{A:Option Addr}{v:Value}{l:List Nat}
theorem RN.len(h:RN w B A n l):l.length=n:=by have:=h.1;simpa using this
theorem RN.elem(h:RN w B A n l){k:Nat}(f:k<n):∃b,A=some b/\b.block<B/\w.cell? (b.add k)=some (.int .i64 ((l.getD k 0:Nat):Int)):=by
 obtain⟨b,u,e,g,c,i⟩:=Reads.at_ h f;have d:k<l.length:=by have:=h.len;omega
 rw[getElem?_map,ak d]at c;injection c with c;refine⟨b,e,g,?_⟩;rw[i,<-c,getD_eq_getElem?_getD,ak d];rfl
theorem RN.below(h:RN w B A n l)(b:Below B w w'):RN w' B A n l:=Reads.below h b
theorem RN.drewN(h:RN w B A n l)(k:Nat):RN (w.drewN k) B A n l:=h
end
section
variable {α:Type}{enc:α->Value}{e:TypeId}{w w':World}{B base n:Nat}{v:Value}{l:List α}
end
section
variable {w w':World}{B base n:Nat}{v:Value}{l:List Nat}
end
theorem lj:(Tryz.prog.info? 3).map (λi=>(i.zero,i.size,i.bytes))=some (some (.int .i64 0),1,8):=by kernel_rfl
section
variable {ops:Array Oper}{rest:List Oper}{o:Oper}{a:Act}{Q:Exit->Act->World->Prop}
end
theorem rX(w:World)(k:Nat)(b:1<=k)(c:k<=7):Calls Tryz.prog 65 #[.int .i64 (k:Int)] w λe w'=>e=.returned (.int .i64 (k:Int))/\w=w':=by
 have d:(1:Int)<=(k:Int):=by omega
 have f:(k:Int)<=7:=by omega
 go_enter Tryz.func65,Tryz.ntmps65;go_wp2_with fail;all_goals
  go_ret;exact⟨bV (by simp;try omega),rfl⟩
theorem RB.cutAt{w:World}{B n c k:Nat}{A:Option Addr}{l:List UInt8}(h:RB w B A n l)(d:k<=n)(f:n<=c)(b:¬c=k):RB w B (A.map (λx=>x.add k)) (n-k) (l.drop k):=by have:=Reads.cut (cap:=c) h d f;rw[if_neg b,Nat.mul_one]at this;unfold RB bv at *;rw[map_drop];exact this
theorem RB.zero(w:World)(B:Nat)(A:Option Addr):RB w B A 0 []:=⟨by simp[bv],λh=>absurd h (by omega)⟩
def iJ(w:World)(l:List UInt8)(e:Ending)(w':World):Prop:=∃v,e=.returned v/\OB w' w.heap.size v l.length l/\Below w.heap.size w w'
theorem Dk(n k:Nat):(n:Int)/2^(8*k)%256=((UInt8.ofNat (n/256^k%256)).toNat:Int):=by rw[Cp,show(256:Nat)=2^8 from rfl,<-Nat.pow_mul,Int.natCast_emod,Int.natCast_ediv,Int.natCast_pow];rfl
theorem eX(w:World)(A B:Option Addr)(n c m d k:Nat)(b:List UInt8)(f:List Nat)(H:RB w w.heap.size A n b)(t:RN w w.heap.size B m f)(a3:n<=10000000)(a4:m<=1000)(T:1<=k)(L:k<=7)(U:∀x∈f,x<9223372036854775808):Calls Tryz.prog 24 #[.slice A n c,.int .i64 (k:Int),.slice B m d] w (iJ w (b++bP k f)):=by
 have V:=J H.len;have u:=J t.len;have C:∀i,i<m->f.getD i 0<9223372036854775808:=λi am=>by
  have W:i<f.length:=by have:=u.o;omega
  rw[getD_eq_getElem?_getD,ak W];exact U _ (getElem_mem W)
 have Y:=J (λan=>rX an k T L);replace C:=J C;clear U;replace H:=J H;replace t:=J t;go_enter Tryz.func24,Tryz.ntmps24;go_wp2_with(at_builtin;refine eF rfl (.const (.slice none 0 0)) (.tmp 11) rfl w.heap.size _ 0 [] (OB.nil _ _) rfl w.heap.size A n c b rfl H.o (by omega) (aa _) ?_;intro Z ab q r _ _;have g:Hid (OB ab w.heap.size Z n b):=(by rw[nil_append,Nat.zero_add]at q;exact q);have y:=J r;clear q r);go_loopw [7,15] (λN D E=>∃i:Nat,D=.int .i64 (i:Int)/\i<=m/\Hid (OB E w.heap.size N (n+k*i) (b++bP k (f.take i)))/\Hid (Below w.heap.size w E)) (λ_ D _=>m-(intOf D).toNat)
 case atStart=>exact⟨0,rfl,zero_le _,by rw[take_zero];simpa[bP]using g,y⟩
 case round=>
  clear g y;obtain⟨i,rfl,am,p,s⟩:=hrel;by_cases F:i<m
  ·obtain⟨a5,rfl,ap,ao⟩:=(t.o.below s.o).elem F;have G:=C.o i F;have M:Hid (bP k (f.take (i+1))=bP k (f.take i)++leB k (f.getD i 0)):=Dl k f i (by have:=u.o;omega);obtain⟨X,O⟩:=I (f.getD i 0);rw[<-O]at ao G M;replace O:=J O;have a0:k*i<=7*1000:=Nat.mul_le_mul L (by omega);have a1:(X:Int)<=9223372036854775807:=by omega
   replace G:=J G;go_wp2_with fail;refine(Y.o _).mono ?_;rintro e a6 ⟨rfl,rfl⟩;obtain⟨P,K⟩:=I (b++bP k (f.take i));rw[<-K]at p;obtain⟨ac,z⟩:=I (n+k*i);rw[<-z]at p;have a2:ac<=10007000:=by omega
   replace K:=J K;replace z:=J z;go_wp2_with fail;go_loopw [7,21] (λN v21 E=>∃j:Nat,v21=.int .i64 (j:Int)/\j<=k/\Hid (OB E w.heap.size N (ac+j) (P++leB j X))/\Hid (Below w.heap.size w E)) (λ_ v21 _=>k-(intOf v21).toNat)
   case atStart=>exact⟨0,rfl,zero_le _,by rw[leB,append_nil];exact p,s⟩
   case round=>
    clear p s;obtain⟨j,rfl,a7,p,s⟩:=hrel;have ad:=s.o.size;by_cases S:j<k
    ·have ae:=J (Dk X j);have af:Hid (P++leB (j+1) X=(P++leB j X)++[UInt8.ofNat (X/256^j%256)]):=by rw[Hid,xP,av]
     go_wp2_with(at_builtin;refine lI (UInt8.ofNat (X/256^j%256)) ae.o rfl (.tmp 24) (.tmp 30) rfl w.heap.size _ _ _ p.o rfl _ rfl (by omega) ad ?_;intro Z ab q r al;have g:=J q;have y:=J (s.o.trans r);clear q r al);go_roundw
     case rel=>exact⟨j+1,by go_num,S,by rw[af.o];exact g,y⟩
     case measure=>simp[intOf];omega
    ·obtain rfl:j=k:=by omega
     have g:Hid (OB wr w.heap.size u7 (n+j*(i+1)) (b++bP j (f.take (i+1)))):=by rw[Hid,M.o,<-av,<-K.o,mul_succ,<-Nat.add_assoc,<-z.o];exact p.o
     clear p;go_wp2_with fail;go_roundw
     case rel=>exact⟨i+1,by go_num,F,g,s⟩
     case measure=>simp[intOf];omega
  ·obtain rfl:i=m:=by omega
   have g:Hid (OB wr w.heap.size u7 (b++bP k f).length (b++bP k f)):=by have:=p.o;rw[bQ (by have:=u.o;omega)]at this;rw[aq,cU,V.o,u.o];exact this
   clear p;go_wp2_with fail;go_ret;exact⟨_,rfl,g.o,s.o⟩
def Fm(w:World)(k:Nat)(l:List UInt8)(e:Ending)(w':World):Prop:=∃v,e=.returned (.tuple #[v,.int .i64 0])/\OB w' w.heap.size v k l/\Below w.heap.size w w'
theorem xQ(w:World)(A:Option Addr)(n c at_ k:Nat)(b:List UInt8)(g:RB w w.heap.size A n b)(t:n<=c)(S:n<=10000000)(E:at_+k<=n):Calls Tryz.prog 130 #[.slice A n c,.int .i64 (at_:Int),.int .i64 (k:Int)] w (Fm w k ((b.drop at_).take k)):=by
 have F:=J g.len;have U:¬(n:Int)<(at_:Int):=by omega
 have G:decide (n<at_)=false:=by rw[decide_eq_false_iff_not];omega
 obtain⟨D,q⟩:=I (n-at_);have H:(n:Int)-(at_:Int)=(D:Int):=by omega
 have V:¬(D:Int)<(k:Int):=by omega
 have K:decide (D<k)=false:=by rw[decide_eq_false_iff_not];omega
 obtain⟨T,r⟩:=I (at_+k);have L:(at_:Int)+(k:Int)=(T:Int):=by omega
 have M:(T:Int)<=(c:Int):=by omega
 have N:(at_:Int)<=(T:Int):=by omega
 have u:T<=c:=by omega
 have y:at_<=T:=by omega
 have O:T-at_=k:=by omega
 refine bf ?_ g q r;clear g q r;intro g q r;by_cases m:c=at_
 ·obtain rfl:k=0:=by omega
  subst m;have W:Hid ((b.drop c).take 0=[]):=take_zero;have P:c-c=0:=Nat.sub_self c;go_enter Tryz.func130,Tryz.ntmps130;go_wp2_with(at_builtin;refine eF rfl (.const (.slice none 0 0)) (.tmp 33) rfl w.heap.size _ 0 [] (OB.nil _ _) rfl w.heap.size A 0 0 [] rfl (RB.zero _ _ _) (by omega) (aa _) ?_;intro s z d f _ _;have i:=J d;have j:=J f;clear d f)
  go_ret2
  exact⟨s,rfl,i.o,j.o⟩
 ·have C:=J ((g.o.cutAt (by omega) t m).take (k:=k) (by omega));go_enter Tryz.func130,Tryz.ntmps130;go_wp2_with(at_builtin;refine eF rfl (.const (.slice none 0 0)) (.tmp 33) rfl w.heap.size _ 0 [] (OB.nil _ _) rfl w.heap.size (A.map (λx=>x.add at_)) k (c-at_) _ rfl C.o (by omega) (aa _) ?_;intro s z d f _ _;have i:=J d;have j:=J f;clear d f)
  go_ret2
  have p:=i.o;rw[nil_append,Nat.zero_add]at p;exact⟨s,rfl,p,j.o⟩
theorem Ja(a b:Nat)(k:a<281474976710656)(c:b<256):bits .or .i64 ((a:Int)*256) (b:Int)=((b+256*a:Nat):Int):=by
 show IntKind.i64.wrap ((BitVec.ofInt 64 ((a:Int)*256) ||| BitVec.ofInt 64 b).toNat:Int)=_;have d:((2^64:Nat):Int)=18446744073709551616:=by decide
 rw[BitVec.toNat_or,BitVec.toNat_ofInt,BitVec.toNat_ofInt,d];have f:((a:Int)*256%18446744073709551616).toNat=a*2^8:=by
  have g:(2:Nat)^8=256:=by decide
  rw[g];omega
 have i:((b:Int)%18446744073709551616).toNat=b:=by omega
 have j:a*2^8 ||| b=b+256*a:=by rw[<-shiftLeft_eq,<-shiftLeft_add_eq_or_of_lt (by exact c),shiftLeft_eq];omega
 rw[f,i,j,IntWalk.i64_in _ (by omega)]
def qf(x:Nat)(b:Nat)(w:World)(e:Ending)(w':World):Prop:=e=.returned (.tuple #[.int .i64 (x:Int),.int .i64 (b:Int)])/\Below w.heap.size w w'
theorem jR(w:World)(A:Option Addr)(n c at_ k:Nat)(b:List UInt8)(g:RB w w.heap.size A n b)(G:n<=c)(V:n<=10000000)(H:at_+k<=n)(K:1<=k)(am:k<=6):Calls Tryz.prog 86 #[.slice A n c,.int .i64 (at_:Int),.int .i64 (k:Int)] w (qf (fH ((b.drop at_).take k)) 0 w):=by
 have x:=J (xQ w A n c at_ k b g G V H);have M:=J (λW=>rX W k K (by omega));have d:((b.drop at_).take k).length=k:=by rw[aH,aQ,g.len];omega
 obtain⟨L,j⟩:=I ((b.drop at_).take k);rw[<-j]at x d⊢;have f:=Cq;refine bz ?_ j g d f;clear j g d f;intro j g d f;go_enter Tryz.func86,Tryz.ntmps86;go_wp2_with fail;refine(M.o _).mono ?_;rintro e an ⟨rfl,rfl⟩;go_wp2_with fail;refine x.o.mono ?_;rintro e Z ⟨v,rfl,m,z⟩;obtain⟨D,p,rfl,ad,-⟩:∃D p,v=.slice (some ⟨D,0,none⟩) k p/\k<=p/\p<=maxLen:=by
  rcases m.parts with⟨_,ao,_⟩|h
  ·omega
  ·exact h
 replace m:=J m;replace z:=J z;go_wp2_with fail;go_loopw [10,11] (λv10 v11 ab=>∃(i X:Nat),v11=.int .i64 ((i:Int)-1)/\v10=.int .i64 (X:Int)/\Hid (X=fH (L.drop i))/\i<=k/\Hid (ab=Z)) (λ_ v11 _=>(intOf v11+1).toNat)
 case atStart=>exact⟨k,0,rfl,rfl,by rw[Hid,drop_of_length_le (by rw[d.o];exact aa _)];rfl,aa _,rfl⟩
 case round=>
  obtain⟨i,X,rfl,rfl,E,ap,F⟩:=hrel;cases i with
  |zero=>
   have ac:(((0:Nat):Int)-1)=-1:=rfl
   rw[ac]
   have N:Hid (X=fH L):=E
   go_wp2_with fail
   go_ret2
   exact⟨by rw[<-N.o];rfl,by rw[F.o];exact z.o⟩
  |succ i=>
   have O:(((i+1:Nat):Int)-1)=(i:Int):=by omega
   rw[O]
   have y:i<L.length:=by rw[d.o];omega
   have q:=Dm L i y
   rw[<-E.o]at q
   have r:wr.cell? ⟨D,i,none⟩=some (.int .u8 ((L[i]).toNat:Int)):=by rw[F.o];exact m.o.cell (by omega) y
   have P:X<256^5:=by have S:=f.o (L.drop (i+1));rw[<-E.o,aQ,d.o]at S;exact aN S (Nat.pow_le_pow_right (by omega) (by omega))
   have T:(256:Nat)^5=1099511627776:=by decide
   obtain⟨C,s⟩:=I ((L[i]).toNat)
   have t:C<256:=by rw[s];exact(L[i]).toNat_lt
   rw[<-s]at r q
   obtain⟨Y,u⟩:=I (C+256*X)
   rw[T]at P
   have ae:(i:Int)<(k:Int):=by omega
   have af:(0:Int)<=(i:Int):=by omega
   have U:Hid (Y=fH (L.drop i)):=by rw[Hid,u,q]
   replace s:=J s
   replace u:=J u
   have al:bits .or .i64 ((X:Int)*256) (C:Int)=(Y:Int):=by rw[Ja X C (by omega) t,u.o]
   clear q O T
   go_wp2_with fail
   go_roundw
   case rel=>exact⟨i,Y,by go_num,rfl,U,by omega,F⟩
   case measure=>simp[intOf]
theorem Fo(n k:Nat)(h:n<256^k):(n:Int)/2^(8*k)=0:=by
 have e:(2:Int)^(8*k)=((256^k:Nat):Int):=by rw[show(256:Nat)=2^8 from rfl,<-Nat.pow_mul,Int.natCast_pow];rfl
 rw[e,<-Int.natCast_ediv,div_eq_of_lt h];rfl
theorem xR(w:World)(B:Option Addr)(m d k:Nat)(f:List Nat)(b:RN w w.heap.size B m f)(M:m<=1000)(s:1<=k)(q:k<=7)(t:∀x∈f,x<256^k):Calls Tryz.prog 188 #[.int .i64 (k:Int),.slice B m d] w λe w'=>e=.returned (.bool true)/\w=w':=by
 have u:=J b.len;have y:=J (λD=>rX D k s q);have z:Hid (∀i,i<m->(f.getD i 0)<256^k):=λi E=>by
  have C:i<f.length:=by have:=u.o;omega
  rw[getD_eq_getElem?_getD,ak C];exact t _ (getElem_mem C)
 have j:(256:Nat)^k<=256^7:=Nat.pow_le_pow_right (by omega) q;have p:(256:Nat)^7=72057594037927936:=by decide
 refine bf ?_ b j p;clear b j p;intro b j p;clear t;go_enter Tryz.func188,Tryz.ntmps188;go_wp2_with fail;go_loopw [9] (λv9 F=>∃i:Nat,v9=.int .i64 (i:Int)/\i<=m/\w=F) (λv9 _=>m-(intOf v9).toNat)
 case atStart=>exact⟨0,rfl,zero_le _,(by first|rfl|trivial)⟩
 case round=>
  obtain⟨i,rfl,E,rfl⟩:=hrel;by_cases g:i<m
  ·obtain⟨N,rfl,H,G⟩:=b.o.elem g;have c:=z.o i g;obtain⟨X,r⟩:=I (f.getD i 0);rw[<-r]at G c;have O:=Fo X k c;have K:(X:Int)<72057594037927936:=by have:=j.o;have:=p.o;omega
   have L:¬(X:Int)<0:=by omega
   replace r:=J r;replace c:=J c;go_wp2_with fail;refine(y.o _).mono ?_;rintro e P ⟨rfl,rfl⟩;go_wp2_with fail;go_roundw
   case rel=>exact⟨i+1,by go_num,g,(by first|rfl|trivial)⟩
   case measure=>simp[intOf];omega
  ·obtain rfl:i=m:=by omega
   go_wp2_with fail;go_ret;exact⟨rfl,rfl⟩
end Go.Proofs.YtajdeapdgbnahaaGreatDoor
