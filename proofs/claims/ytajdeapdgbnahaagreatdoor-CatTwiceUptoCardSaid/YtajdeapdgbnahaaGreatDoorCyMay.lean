/-
  Contract of name.May.
-/
import Derived.Test.YtajdeapdgbnahaaGreatDoorCyGr4
import Derived.Test.YtajdeapdgbnahaaGreatDoorCyShelfV
namespace Go.Proofs.YtajdeapdgbnahaaGreatDoor
set_option linter.unusedVariables false
set_option maxRecDepth 100000
set_option maxHeartbeats 1000000
open Go.RowKit
def mc(w:World):Prop:=Lib.Utf8Tabs 0 1 w/\0<w.heap.size/\1<w.heap.size
theorem mc.below{w w':World}(h:mc w)(a:Below w.heap.size w w'):mc w':=by
 obtain⟨⟨g,d⟩,e,b⟩:=h;refine⟨⟨λc j=>(a.cell (p:=⟨0,c,none⟩) e).trans (g c j),λi f=>⟨(a.cell (p:=⟨1,2*i,none⟩) b).trans (d i f).1,(a.cell (p:=⟨1,2*i+1,none⟩) b).trans (d i f).2⟩⟩,?_,?_⟩
 ·exact aN e a.size
 ·exact aN b a.size
def kQ(c:Nat):Bool:=decide (c<32)||c==127
def eW(s:ByteArray):Nat->Nat->Bool
 |0,_=>true
 |f+1,pos=>if pos<s.size then(if kQ (Utf8.decode s pos).1=true then false else eW s f (pos+(Utf8.decode s pos).2))else true
def kR(s:ByteArray):Bool:=decide (1<=s.size)&&decide (s.size<=40)&&Lib.validD s.data.toList&&eW s s.size 0
theorem E7(s:ByteArray)(pos:Nat)(h:pos<s.size):1<=(Utf8.decode s pos).2:=by
 by_cases a:(s[pos]'h).toNat<128
 ·rw[decode_ascii s pos h a];exact aa _
 ·exact(decode_high s pos h (by omega)).2
theorem z8(s:ByteArray)(f pos:Nat)(h:¬pos<s.size):eW s f pos=true:=by
 cases f with
 |zero=>rfl
 |succ f=>simp[eW,h]
theorem I9(s:ByteArray)(w:World)(q:mc w):Calls Tryz.prog 52 #[.string s] w λe w'=>e=.returned (.bool (kR s))/\Below w.heap.size w w':=by
 by_cases C:s.size=0
 ·have N:s=⟨#[]⟩:=by
   have D:s.data.toList=[]:=bT (by rw[iM];exact C);have E:s.data=#[]:=by rw[<-Array.toList_inj];exact D
   cases s;simp at E;rw[E]
  subst N;clear q;go_enter Tryz.func52,Tryz.ntmps52;go_wp2_with fail;go_ret;exact⟨rfl,Below.refl _ _⟩
 ·have t:s.toList.isEmpty=false:=by rw[ByteArray.toList_eq,List.isEmpty_eq_false_iff];intro e;have F:=iM s;rw[e]at F;exact C F.symm
  have O:¬s.toList=[]:=by intro e;rw[e]at t;cases t
  by_cases D:40<s.size
  ·have l:=J (by unfold kR;rw[aD (by omega:¬s.size<=40)];simp:kR s=false);have G:(40:Int)<(s.size:Int):=by omega
   clear q;go_enter Tryz.func52,Tryz.ntmps52;go_wp2_with fail;go_ret;exact⟨by rw[l.o];rfl,Below.refl _ _⟩
  ·have G:¬(40:Int)<(s.size:Int):=by omega
   have P:=J (Any.utf8_ValidString Tryz.vL s w (by omega) q.1:Calls Tryz.prog 99 #[.string s] w λe w'=>e=.returned (.bool (Lib.validD s.data.toList))/\Below w.heap.size w w');have u:=J (by unfold kR;rw[aV (by omega:1<=s.size),aV (by omega:s.size<=40)];simp:kR s=(Lib.validD s.data.toList&&eW s s.size 0));replace q:=J q;go_enter Tryz.func52,Tryz.ntmps52;go_wp2_with(first|(go_at_call 99;refine P.o.mono ?_;rintro e g ⟨rfl,d⟩;replace d:=J d;obtain⟨z,j⟩:∃z,z=Lib.validD s.data.toList:=⟨_,rfl⟩;rw[<-j];replace j:=J j;cases z))
   ·have l:kR s=false:=by rw[u.o,<-j.o];rfl
    go_wp2_with fail;go_ret;exact⟨by rw[l];rfl,d.o⟩
   ·have l:=J (by rw[u.o,<-j.o];rfl:kR s=eW s s.size 0);go_wp2_with fail;go_loopw [4] (λ_ w'=>∃(pos b:Nat),w'=g.iter s pos/\Hid (eW s b pos=eW s s.size 0)/\s.size<=pos+b) (λ_ w'=>s.size-w'.iterPos g.heap.size)
    case atStart=>exact⟨0,s.size,rfl,J rfl,by omega⟩
    case round=>
     obtain⟨pos,b,rfl,A,Q⟩:=hrel;by_cases r:pos<s.size
     ·have v:∀ty,(Instr.next (.pointer (some ⟨g.heap.size,0,none⟩)) true ty).run Tryz.prog (g.iter s pos)=_:=λty=>run_next_any g s pos ty r;have H:=E7 s pos r;obtain⟨b',rfl⟩:∃b',b=b'+1:=⟨b-1,by omega⟩;have f:(if kQ (Utf8.decode s pos).1=true then false else eW s b' (pos+(Utf8.decode s pos).2))=eW s s.size 0:=by rw[<-A.o];conv=>rhs;unfold eW;rw[if_pos r]
      obtain⟨m,k⟩:=I ((Utf8.decode s pos).1);obtain⟨x,i⟩:=I ((Utf8.decode s pos).2);rw[<-k,<-i]at f;rw[<-i]at H;rw[<-k,<-i]at v;refine bf ?_ k i f;clear k i f;intro k i f;clear A;have y:Hid (∀p,Below w.heap.size w (g.iter s p)):=J λp=>d.o.alloc d.o.size _;by_cases B:m<32
      ·have K:(m:Int)<32:=by omega
       have c:=J (by rw[l.o,<-f.o,if_pos (by unfold kQ;rw[aV B];rfl)]:kR s=false);clear B;go_wp2_with fail;go_ret;exact⟨by rw[c.o];rfl,y.o _⟩
      ·have K:¬(m:Int)<32:=by omega
       by_cases n:m=127
       ·have c:=J (by rw[l.o,<-f.o,if_pos (by unfold kQ;rw[n];rfl)]:kR s=false);have L:((m:Int)==127)=true:=by rw[beq_iff_eq];omega
        replace n:=J n;go_wp2_with fail;go_ret;exact⟨by rw[c.o];rfl,y.o _⟩
       ·have L:((m:Int)==127)=false:=by rw[aZ];omega
        have M:Hid (eW s b' (pos+x)=eW s s.size 0):=J (by rw[<-f.o,if_neg];unfold kQ;rw[aD B,(aZ (a:=m) (b:=127)).2 n];decide)
        replace n:=J n;go_wp2_with fail;go_roundw
        case rel=>exact⟨pos+x,b',rfl,M,by omega⟩
        case measure=>rw[World.iterPos_iter,World.iterPos_iter];omega
     ·have v:∀ty,(Instr.next (.pointer (some ⟨g.heap.size,0,none⟩)) true ty).run Tryz.prog (g.iter s pos)=_:=λty=>run_next_end g s pos ty r;have c:Hid (kR s=true/\Below w.heap.size w (g.iter s pos)):=J ⟨by rw[l.o,<-A.o,z8 s b pos r],d.o.alloc d.o.size _⟩;go_wp2_with fail;go_ret;exact⟨by rw[c.o.1];rfl,c.o.2⟩
end Go.Proofs.YtajdeapdgbnahaaGreatDoor
