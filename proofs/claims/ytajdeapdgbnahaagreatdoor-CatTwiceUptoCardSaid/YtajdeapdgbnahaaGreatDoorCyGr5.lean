/-
  append(b, make([]byte, n)...): zeros behind a row of the call's own.
-/
import Derived.Test.YtajdeapdgbnahaaGreatDoorCyGr3
import Derived.Lib.AppendZeros
namespace Go.Proofs.YtajdeapdgbnahaaGreatDoor
set_option linter.unusedVariables false
set_option maxRecDepth 100000
open Go.RowKit
open List Nat
set_option linter.unusedSimpArgs false
def bt(n:Nat):List UInt8:=replicate n 0
theorem ez(n:Nat):(bt n).length=n:=by simp[bt]
theorem mW(n:Nat):Builtin.zeroCells (Value.int .u8 0).cells n=(bv (bt n)).toArray:=by
 apply Array.ext
 ·simp[Builtin.zeroCells,bv,bt,Value.cells]
 ·intro i a b;simp[Builtin.zeroCells,bv,bt,Value.cells,mod_one]
theorem pU(w:World)(base:Nat)(v:Value)(n:Nat)(l:List UInt8)(j:OB w base v n l)(m:Nat)(ty:TypeId)(X:n+m<=1000000000)(A:base<=w.heap.size):∃B w',(Builtin.append_ #[23,3] ty #[v,.int .i64 (m:Int)]).run Tryz.prog w=.ok B w'/\OB w' base B (n+m) (l++bt m)/\w.grownBy w' v.ownBlock/\(B.ownBlock=v.ownBlock\/B.ownBlock=some w.heap.size):=by
 obtain⟨i,s,t,o,c⟩:=info_parts eB;have u:=Tryz.underlying23;have d:=Tryz.underlying3;have L:IntKind.i64.wrap (m:Int)=m:=by rw[IntKind.wrap_i64];omega
 have E:IntKind.i64.wrap 0=0:=by rw[IntKind.wrap_i64];omega
 have x:¬(281474976710656<(m:Int)):=by omega
 have y:¬((m:Int)<0):=by omega
 have C:=j.len;have p:(bv (l++bt m)).length=(n+m)*1:=by rw[dn,aq,ez,C,Nat.mul_one]
 have grown:∀(old:Nat),old<n+m->∀(row:Option Nat),
  OB (w.drew.alloc (.cells ((bv l).toArray++(bv (bt m)).toArray++Builtin.zeroCells (Value.int .u8 0).cells (grownCap w (n+m) old 5-(n+m))) 5)) base (.slice (some ⟨w.heap.size,0,none⟩) (n+m) (grownCap w (n+m) old 5)) (n+m) (l++bt m)/\
  w.grownBy (w.drew.alloc (.cells ((bv l).toArray++(bv (bt m)).toArray++Builtin.zeroCells (Value.int .u8 0).cells (grownCap w (n+m) old 5-(n+m))) 5)) row:=by
  intro old ab row;have M:=grownCap_ge w (n+m) old 5;have z:grownCap w (n+m) old 5<=maxLen:=grownCap_le_maxLen w (n+m) old 5 (by simp only[maxLen];omega);refine⟨⟨p,.inr ⟨w.heap.size,_,_,rfl,A,heap_alloc_new w.drew _,M,z,?_,?_⟩⟩,⟨rfl,rfl,rfl,by simp,λk G _=>Below.heap_alloc w.drew _ k G⟩⟩
  ·simp only[Array.size_append,size_toArray,size_zeroCells,dn,C,ez];show _+_*1=_*1;omega
  ·simp only[Array.toList_append,av];rw[<-av,<-fM,<-p];exact take_left
 rcases j.2 with⟨rfl,rfl⟩|⟨g,cap,q,rfl,N,O,Q,z,S,D⟩
 ·have Y:l=[]:=bT C;subst Y;by_cases r:m=0
  ·subst r;refine⟨.slice none 0 0,w,?_,OB.nil w base,⟨rfl,rfl,rfl,aa _,λ_ _ _=>rfl⟩,Or.inl rfl⟩;simp[Builtin.append_,run_underlying u,run_underlying d,sizeOf,typeInfo,zeroValue,s,t,asInt,asIntOf,c,o,E]
  ·have T:=Lib.run_append_nil_zeros (P:=Tryz.prog) w 23 3 ty 5 i (.int .u8 0) .i64 .i64 u d s t m (by omega) (by omega) (by omega) (by rw[c];omega);have a:=grown 0 (by omega) (Value.ownBlock (.slice none 0 0));simp only[Nat.zero_add,nil_append,Array.empty_append,bv,map_nil,mW]at a T⊢;exact⟨_,_,T,a.1,a.2,Or.inr rfl⟩
 ·by_cases b:n+m<=cap
  ·have U:=mW m;have f:=run_storeCells_at Tryz.prog g (n*1) 5 (bv (bt m)) 0 q w O (by rw[dn,ez,S];omega) (kU _);simp only[Nat.add_zero,Nat.mul_one]at f;refine⟨.slice (some ⟨g,0,none⟩) (n+m) cap,w.setRow g (q.toList.take (n*1)++bv (bt m)++q.toList.drop (n*1+(bv (bt m)).length)).toArray,?_,⟨p,.inr ⟨g,cap,_,rfl,N,setRow_heap w g q _ 5 _ O,b,z,?_,?_⟩⟩,⟨rfl,rfl,rfl,by simp,λk _ G=>setRow_other w g k _ (λe=>G (by simp[Value.ownBlock,e]))⟩,Or.inl rfl⟩
   ·by_cases r:m=0
    ·subst r;have V:bt 0=[]:=rfl;simp[V,bv]at f;simp[Builtin.append_,run_underlying u,run_underlying d,sizeOf,typeInfo,zeroValue,s,t,asInt,asIntOf,c,o,E,Q,V,bv,Addr.add_lit,f]
    ·have F:¬(m*1=0):=by omega
     simp[Builtin.append_,run_underlying u,run_underlying d,sizeOf,typeInfo,zeroValue,s,t,asInt,asIntOf,L,r,y,x,c,o,b,U,Addr.add_lit];simp only[av]at f;rw[f];rfl
   ·simp only[size_toArray,aq,aH,aQ,Array.length_toList,dn,ez];omega
   ·rw[D,<-fM,<-p];exact take_left
  ·have r:¬m=0:=by omega
   have F:¬(m*1=0):=by omega
   have Z:¬(n+m<=cap):=b;have H:¬(9223372036854775807<((n:Int)+(m:Int))):=by omega
   have K:¬(281474976710656<Builtin.nextslicecap (n+m) cap):=by have:=growslice_fits (need:=n+m) (old:=cap) (bytes:=1) (by omega) (by omega);omega
   have W:=run_firstCells_some (P:=Tryz.prog) w.drew 1 n ⟨g,0,none⟩ n cap (bv l) (by rw[dn,C];omega) (by simpa using World.ownsRow.cells (g:=g) j rfl);have a:=grown cap (by omega) (Value.ownBlock (.slice (some ⟨g,0,none⟩) n cap));refine⟨_,_,?_,a.1,a.2,Or.inr rfl⟩;simp[Builtin.append_,run_underlying u,run_underlying d,sizeOf,typeInfo,zeroValue,s,t,asInt,asIntOf,L,r,F,y,x,c,o,Z,H,K,Question.forced,W,newRow,grownCap,mW]
theorem E4(w:World)(B n c:Nat)(A:Option Addr)(f:RB w B A n (bt n))(s:n<=c)(z:n<=10000000):Calls Tryz.prog 206 #[.slice A n c,.int .u8 0] w λe w'=>e=.returned (.slice A 0 c)/\w=w':=by
 have g:Hid (∀i,i<n->∃a,A=some a/\w.cell? (a.add i)=some (.int .u8 0)):=J λi k=>by obtain⟨a,e,_,l⟩:=f.elem k (by rw[ez];exact k);refine⟨a,e,?_⟩;rw[l];simp[bt]
 clear f;go_enter Tryz.func206,Tryz.ntmps206;go_wp2_with fail;go_loopw [0] (λv0 r=>∃m:Nat,v0=.slice A m c/\m<=n/\r=w) (λv0 _=>match v0 with|.slice _ m _=>m|_=>0)
 case atStart=>exact⟨n,rfl,aa _,rfl⟩
 case round=>
  obtain⟨m,rfl,C,p⟩:=hrel;subst p;cases m with
  |zero=>
   go_wp2_with fail
   go_ret
   exact⟨rfl,rfl⟩
  |succ j=>
   obtain⟨a,rfl,l⟩:=g.o j (by omega)
   have q:((j+1:Nat):Int)-1=(j:Int):=by omega
   have t:(j:Int)<=10000000:=by omega
   obtain⟨d,b⟩:=I (j+1)
   rw[<-b]at q⊢
   have u:(0:Int)<(d:Int):=by omega
   have v:(j:Int)<(d:Int):=by omega
   have x:(d:Int)<=(c:Int):=by omega
   have y:(j:Int)<=(c:Int):=by omega
   replace b:=J b
   go_wp2_with fail
   go_roundw
   case rel=>exact⟨j,rfl,by have:=b.o;omega,by first|rfl|trivial⟩
   case measure=>have:=b.o;show j<d;omega
theorem E5(w:World)(c:Nat)(A:Option Addr):Calls Tryz.prog 205 #[.slice A 0 c,.int .u8 0] w λe w'=>e=.returned (.slice none 0 0)/\w=w':=by
 go_enter Tryz.func205,Tryz.ntmps205;go_wp2_with fail;go_loopw [0] (λv0 b=>v0=.slice A 0 c/\b=w) (λv0 _=>0)
 case atStart=>exact⟨rfl,rfl⟩
 case round=>obtain⟨rfl,a⟩:=hrel;subst a;go_wp2_with fail;go_ret;exact⟨rfl,rfl⟩
theorem oM(w:World)(B n c:Nat)(A:Option Addr)(a:RB w B A n (bt n))(b:n<=c)(f:n<=10000000):Calls Tryz.prog 183 #[.slice A n c,.string { data:=#[0] }] w λe w'=>e=.returned (.slice none 0 0)/\∃q,w'=w.drewN q:=by
 have g:Hid (∀q,Calls Tryz.prog 206 #[.slice A n c,.int .u8 0] (w.drewN q) λe w'=>e=.returned (.slice A 0 c)/\w.drewN q=w'):=J λq=>E4 _ B n c A (a.drewN q) b f;have i:Hid (∀q,Calls Tryz.prog 205 #[.slice A 0 c,.int .u8 0] (w.drewN q) λe w'=>e=.returned (.slice none 0 0)/\w.drewN q=w'):=J λq=>E5 _ c A;clear a;rcases eq_zero_or_pos n with d|d
 ·subst d;go_enter Tryz.func183,Tryz.ntmps183;go_wp2_with fail;go_ret;exact⟨rfl,0,rfl⟩
 ·have j:((n:Int)==0)=false:=by rw[aZ];omega
  go_enter Tryz.func183,Tryz.ntmps183;go_wp2_with fail;go_quiet (first|(go_at_call 206;exact fE (g.o _))|(go_at_call 205;exact fE (i.o _)));go_wp2_with fail;go_ret;exact⟨rfl,_,rfl⟩
end Go.Proofs.YtajdeapdgbnahaaGreatDoor
