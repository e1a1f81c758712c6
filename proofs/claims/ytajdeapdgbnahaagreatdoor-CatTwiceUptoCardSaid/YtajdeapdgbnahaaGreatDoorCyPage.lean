/-
  Contracts of page.sum, page.Seal.
-/
import Derived.Test.YtajdeapdgbnahaaGreatDoorCyGr17
import Derived.Test.YtajdeapdgbnahaaGreatDoorCyGr5
namespace Go.Proofs.YtajdeapdgbnahaaGreatDoor
set_option linter.unusedVariables false
set_option maxRecDepth 100000
set_option maxHeartbeats 1000000
open Go.RowKit
theorem oG(w:World)(x:Nat)(t:TypeId):RN (w.alloc (.cells #[.int .i64 (x:Int)] t)) (w.alloc (.cells #[.int .i64 (x:Int)] t)).heap.size (some ⟨w.heap.size,0,none⟩) 1 [x]:=by
 refine⟨by simp,λ_=>⟨_,rfl,by simp,λj u a=>?_⟩⟩
 match j,a with
 |0,a=>simp[encI]at a;subst a;simp[Addr.add]
theorem IX(w:World)(no:Nat)(A:Option Addr)(n c:Nat)(b:List UInt8)(E:no<9223372036854775808)(t:RB w w.heap.size A n b)(M:n<=1000000):Calls Tryz.prog 195 #[.int .i64 (no:Int),.slice A n c] w (iJ w (leB 4 (oK (leB 4 no++b)))):=by
 have y:=J (eX (w.alloc (.cells #[.int .i64 (no:Int)] 3)) none (some ⟨w.heap.size,0,none⟩) 0 0 1 1 4 [] [no] (RB.nil _ _) (oG w no 3) (by omega) (by omega) (by omega) (by omega) (by simpa using E));have i:=t.len;replace t:=J t;go_enter Tryz.func195,Tryz.ntmps195;go_wp2_with fail;refine y.o.mono ?_;rintro e z ⟨v,rfl,q,j⟩;have F:([]++bP 4 [no]:List UInt8)=leB 4 no:=by simp[bP]
 rw[F,bq]at q;have f:Below w.heap.size w z:=((Below.refl w.heap.size w).alloc (aa _) (.cells #[.int .i64 (no:Int)] 3)).trans (j.mono (by simp));obtain⟨B,C,rfl,l,_⟩:=q.form;have d:=Fx (z.alloc (.cells #[.slice B 4 C,.slice A n c] 23)) ⟨z.heap.size,0,none⟩ 2 2 [leB 4 no,b] rfl (by omega) (by omega) (by simp) (by
  intro k b' g
  match k,g with
  |0,g=>
   simp at g;subst g
   exact⟨B,C,by rw[bq];simp[Addr.add],by rw[bq];exact(l.alloc (aa _) _).more (by simp),by rw[bq];omega⟩
  |1,g=>
   simp at g;subst g
   exact⟨A,c,by rw[i];simp[Addr.add],by rw[i];exact((t.o.below f).alloc f.size _).more (by simp;exact Nat.le_succ_of_le f.size),by omega⟩)
 have G:([leB 4 no,b]:List (List UInt8)).flatten=leB 4 no++b:=by simp
 rw[G]at d;obtain⟨X,p⟩:=I (oK (leB 4 no++b));have L:X<4294967296:=by rw[p];exact xU _
 rw[<-p]at d;refine dZ ?_ d p q f j l;clear d p q f j l;intro d p q f j l;go_wp2_with fail;refine d.o.mono ?_;rintro e u ⟨rfl,r⟩;have a:Below w.heap.size w u:=(f.o.alloc f.o.size (.cells #[.slice B 4 C,.slice A n c] 23)).trans (r.mono (by have:=f.o.size;simp;omega));have x:=J (eX (u.alloc (.cells #[.int .i64 (X:Int)] 3)) none (some ⟨u.heap.size,0,none⟩) 0 0 1 1 4 [] [X] (RB.nil _ _) (oG u X 3) (by omega) (by omega) (by omega) (by omega) (by simp;omega));replace r:=J r;replace a:=J a;go_wp2_with fail;refine x.o.mono ?_;rintro e H ⟨v3,rfl,m,s⟩;have K:([]++bP 4 [X]:List UInt8)=leB 4 X:=by simp[bP]
 rw[K]at m;have D:Hid (iJ w (leB 4 (oK (leB 4 no++b))) (.returned v3) H):=by rw[<-p.o];exact J ⟨v3,rfl,m.more (by simp;exact Nat.le_succ_of_le a.o.size),(a.o.alloc a.o.size _).trans (s.mono (by simp;exact Nat.le_succ_of_le a.o.size))⟩
 replace m:=J m;replace s:=J s;go_wp2_with fail;go_ret;exact D.o
end Go.Proofs.YtajdeapdgbnahaaGreatDoor
