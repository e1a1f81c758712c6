/-
  The statement x, y := part(..), part(..) of tree.halves: by an invariant, whatever order it takes.
-/
import Derived.Test.YtiiljlmeililbaaGreatDoorBeGr20
import Derived.Test.YtiiljlmeililbaaGreatDoorBeGr4
import Derived.Test.YtiiljlmeililbaaGreatDoorBeRegion
import Derived.Shelf.Spec.SlicesInsert
import Derived.Shelf.Spec.SlicesInsertGrow
import Derived.Lib.AppendZerosOnto
namespace Go.Proofs.YtiiljlmeililbaaGreatDoor
set_option linter.unusedVariables false
set_option maxRecDepth 100000
open Go.RowKit
theorem bel_s3 {B g : Nat} {a w : World} (h : Below B a w) (hg : B<=g) (u0 u1 u2 : Value) : Below B a (((w.setCell ⟨g,0,none⟩ u0).setCell ⟨g,1,none⟩ u1).setCell ⟨g,2,none⟩ u2):=((h.setCell (p:=⟨g,0,none⟩) hg u0).setCell (p:=⟨g,1,none⟩) hg u1).setCell (p:=⟨g,2,none⟩) hg u2
theorem blk_far3 {w : World} {g k : Nat} {t : TypeId} {cs : Array Value} (h : Blk w g t cs) (hk : g ≠ k) (u0 u1 u2 : Value) : Blk (((w.setCell ⟨k,0,none⟩ u0).setCell ⟨k,1,none⟩ u1).setCell ⟨k,2,none⟩ u2) g t cs :=
 ((h.far (p:=⟨k,0,none⟩) hk u0).far (p:=⟨k,1,none⟩) hk u1).far (p:=⟨k,2,none⟩) hk u2
def Node3 (w : World) (g : Nat) : Prop:=∃ p0 p1 p2,Blk w g 89 #[p0,p1,p2]
section
variable {w w' : World} {g : Nat}
theorem Node3.lt (h : Node3 w g) : g < w.heap.size:=by
 obtain ⟨a,b,c,h⟩:=h
 exact h.lt
theorem Node3.alloc (h : Node3 w g) (o : Obj) : Node3 (w.alloc o) g:=by
 obtain ⟨a,b,c,h⟩:=h
 exact ⟨a,b,c,h.alloc o⟩
theorem Node3.own (h : Node3 w g) (u0 u1 u2 : Value) : Blk (((w.setCell ⟨g,0,none⟩ u0).setCell ⟨g,1,none⟩ u1).setCell ⟨g,2,none⟩ u2) g 89 #[u0,u1,u2]:=by
 obtain ⟨a,b,c,h⟩:=h
 exact ((h.set_ 0 u0).set_ 1 u1).set_ 2 u2
theorem Node3.set (h : Node3 w g) (k : Nat) (u0 u1 u2 : Value) : Node3 (((w.setCell ⟨k,0,none⟩ u0).setCell ⟨k,1,none⟩ u1).setCell ⟨k,2,none⟩ u2) g:=by
 by_cases e : g=k
 · subst e; exact ⟨u0,u1,u2,h.own u0 u1 u2⟩
 · obtain ⟨a, b, c, h⟩ := h
   exact ⟨a,b,c,blk_far3 h e u0 u1 u2⟩
theorem Node3.below (h : Node3 w g) (hb : Below w.heap.size w w') : Node3 w' g:=by
 obtain ⟨a,b,c,h⟩:=h
 exact ⟨a,b,c,h.below hb h.lt⟩
end
def XO (w0 : World) (G : Nat->Prop) (v : Value) (n' : NodeP) : Prop:=∃ A c B d,v=.agg #[.bool n'.leaf,.slice A n'.cells.length c,.slice B n'.kids.length d]/\NodeM G w0 v n'
def fixV (i : Nat) : Bool:=i < 11 || (12 < i && i < 26) || 36 < i
structure HV (w0 : World) (G : Nat->Prop) (nv : Value) (A : Option Addr) (g0 N c m sk : Nat) (na nb : NodeP) (U0 : Nat->Value) (L : Nat->Bool) (U : Nat->Value) (w : World) : Prop where
 fix : ∀ i,fixV i=true->U i=U0 i
 bel : Below w0.heap.size w0 w
 s0 : L 0=true->U 26=nv
 s1 : L 1=true->U 27=.int .i64 (m : Int)
 s2 : L 2=true->XO w0 G (U 28) na
 s3 : L 3=true->U 29=nv
 s4 : L 4=true->U 30=.int .i64 (m : Int)
 s5 : L 5=true->U 31=.int .i64 (sk : Int)
 s6 : L 6=true->U 32=.int .i64 ((m : Int) + (sk : Int))
 s7 : L 7=true->U 33=.pointer (some ⟨g0,1,none⟩)
 s8 : L 8=true->U 34=.slice A N c
 s9 : L 9=true->U 35=.int .i64 (N : Int)
 s10 : L 10=true->XO w0 G (U 36) nb
 x : L 11=true->∃ g,U 11=.pointer (some ⟨g,0,none⟩)/\w0.heap.size<=g/\Node3 w g/\(L 13=true->∃ cs,U 28=.agg cs/\Blk w g 89 cs)
 y : L 12=true->∃ g,U 12=.pointer (some ⟨g,0,none⟩)/\w0.heap.size<=g/\Node3 w g/\(L 14=true->∃ cs,U 36=.agg cs/\Blk w g 89 cs)
 xy : L 11=true->L 12=true->U 11 ≠ U 12
 d13 : L 13=true->L 11=true/\L 2=true
 d14 : L 14=true->L 12=true/\L 10=true
def upLv (L : Nat->Bool) (i : Nat) : Nat->Bool:=fun j => if j=i then true else L j
def upUv (U : Nat->Value) (s : Nat) (v : Value) : Nat->Value:=fun n => if n=s then v else U n
section
variable {w0 w w' : World} {G : Nat->Prop} {nv : Value} {A : Option Addr} {g0 N c m sk : Nat} {na nb : NodeP} {U0 : Nat->Value} {L : Nat->Bool} {U : Nat->Value}
theorem HV.pure0 (h : HV w0 G nv A g0 N c m sk na nb U0 L U w) : HV w0 G nv A g0 N c m sk na nb U0 (upLv L 0) (upUv U 26 nv) w where
 fix:=fun i hi => by
   have h9 : i ≠ 26:=fun e => by subst e; cases hi
   rw [<- h.fix i hi]
   simp [upUv,h9]
 bel:=h.bel
 s0:=fun _ => by simp [upUv]
 s1:=by simpa [upLv,upUv] using h.s1
 s2:=by simpa [upLv,upUv] using h.s2
 s3:=by simpa [upLv,upUv] using h.s3
 s4:=by simpa [upLv,upUv] using h.s4
 s5:=by simpa [upLv,upUv] using h.s5
 s6:=by simpa [upLv,upUv] using h.s6
 s7:=by simpa [upLv,upUv] using h.s7
 s8:=by simpa [upLv,upUv] using h.s8
 s9:=by simpa [upLv,upUv] using h.s9
 s10:=by simpa [upLv,upUv] using h.s10
 x:=by simpa [upLv,upUv] using h.x
 y:=by simpa [upLv,upUv] using h.y
 xy:=by simpa [upLv,upUv] using h.xy
 d13:=by simpa [upLv,upUv] using h.d13
 d14:=by simpa [upLv,upUv] using h.d14
theorem HV.pure1 (h : HV w0 G nv A g0 N c m sk na nb U0 L U w) : HV w0 G nv A g0 N c m sk na nb U0 (upLv L 1) (upUv U 27 (.int .i64 (m : Int))) w where
 fix:=fun i hi => by
   have h9 : i ≠ 27:=fun e => by subst e; cases hi
   rw [<- h.fix i hi]
   simp [upUv,h9]
 bel:=h.bel
 s0:=by simpa [upLv,upUv] using h.s0
 s1:=fun _ => by simp [upUv]
 s2:=by simpa [upLv,upUv] using h.s2
 s3:=by simpa [upLv,upUv] using h.s3
 s4:=by simpa [upLv,upUv] using h.s4
 s5:=by simpa [upLv,upUv] using h.s5
 s6:=by simpa [upLv,upUv] using h.s6
 s7:=by simpa [upLv,upUv] using h.s7
 s8:=by simpa [upLv,upUv] using h.s8
 s9:=by simpa [upLv,upUv] using h.s9
 s10:=by simpa [upLv,upUv] using h.s10
 x:=by simpa [upLv,upUv] using h.x
 y:=by simpa [upLv,upUv] using h.y
 xy:=by simpa [upLv,upUv] using h.xy
 d13:=by simpa [upLv,upUv] using h.d13
 d14:=by simpa [upLv,upUv] using h.d14
theorem HV.pure3 (h : HV w0 G nv A g0 N c m sk na nb U0 L U w) : HV w0 G nv A g0 N c m sk na nb U0 (upLv L 3) (upUv U 29 nv) w where
 fix:=fun i hi => by
   have h9 : i ≠ 29:=fun e => by subst e; cases hi
   rw [<- h.fix i hi]
   simp [upUv,h9]
 bel:=h.bel
 s0:=by simpa [upLv,upUv] using h.s0
 s1:=by simpa [upLv,upUv] using h.s1
 s2:=by simpa [upLv,upUv] using h.s2
 s3:=fun _ => by simp [upUv]
 s4:=by simpa [upLv,upUv] using h.s4
 s5:=by simpa [upLv,upUv] using h.s5
 s6:=by simpa [upLv,upUv] using h.s6
 s7:=by simpa [upLv,upUv] using h.s7
 s8:=by simpa [upLv,upUv] using h.s8
 s9:=by simpa [upLv,upUv] using h.s9
 s10:=by simpa [upLv,upUv] using h.s10
 x:=by simpa [upLv,upUv] using h.x
 y:=by simpa [upLv,upUv] using h.y
 xy:=by simpa [upLv,upUv] using h.xy
 d13:=by simpa [upLv,upUv] using h.d13
 d14:=by simpa [upLv,upUv] using h.d14
theorem HV.pure4 (h : HV w0 G nv A g0 N c m sk na nb U0 L U w) : HV w0 G nv A g0 N c m sk na nb U0 (upLv L 4) (upUv U 30 (.int .i64 (m : Int))) w where
 fix:=fun i hi => by
   have h9 : i ≠ 30:=fun e => by subst e; cases hi
   rw [<- h.fix i hi]
   simp [upUv,h9]
 bel:=h.bel
 s0:=by simpa [upLv,upUv] using h.s0
 s1:=by simpa [upLv,upUv] using h.s1
 s2:=by simpa [upLv,upUv] using h.s2
 s3:=by simpa [upLv,upUv] using h.s3
 s4:=fun _ => by simp [upUv]
 s5:=by simpa [upLv,upUv] using h.s5
 s6:=by simpa [upLv,upUv] using h.s6
 s7:=by simpa [upLv,upUv] using h.s7
 s8:=by simpa [upLv,upUv] using h.s8
 s9:=by simpa [upLv,upUv] using h.s9
 s10:=by simpa [upLv,upUv] using h.s10
 x:=by simpa [upLv,upUv] using h.x
 y:=by simpa [upLv,upUv] using h.y
 xy:=by simpa [upLv,upUv] using h.xy
 d13:=by simpa [upLv,upUv] using h.d13
 d14:=by simpa [upLv,upUv] using h.d14
theorem HV.pure5 (h : HV w0 G nv A g0 N c m sk na nb U0 L U w) : HV w0 G nv A g0 N c m sk na nb U0 (upLv L 5) (upUv U 31 (.int .i64 (sk : Int))) w where
 fix:=fun i hi => by
   have h9 : i ≠ 31:=fun e => by subst e; cases hi
   rw [<- h.fix i hi]
   simp [upUv,h9]
 bel:=h.bel
 s0:=by simpa [upLv,upUv] using h.s0
 s1:=by simpa [upLv,upUv] using h.s1
 s2:=by simpa [upLv,upUv] using h.s2
 s3:=by simpa [upLv,upUv] using h.s3
 s4:=by simpa [upLv,upUv] using h.s4
 s5:=fun _ => by simp [upUv]
 s6:=by simpa [upLv,upUv] using h.s6
 s7:=by simpa [upLv,upUv] using h.s7
 s8:=by simpa [upLv,upUv] using h.s8
 s9:=by simpa [upLv,upUv] using h.s9
 s10:=by simpa [upLv,upUv] using h.s10
 x:=by simpa [upLv,upUv] using h.x
 y:=by simpa [upLv,upUv] using h.y
 xy:=by simpa [upLv,upUv] using h.xy
 d13:=by simpa [upLv,upUv] using h.d13
 d14:=by simpa [upLv,upUv] using h.d14
theorem HV.pure6 (h : HV w0 G nv A g0 N c m sk na nb U0 L U w) : HV w0 G nv A g0 N c m sk na nb U0 (upLv L 6) (upUv U 32 (.int .i64 ((m : Int) + (sk : Int)))) w where
 fix:=fun i hi => by
   have h9 : i ≠ 32:=fun e => by subst e; cases hi
   rw [<- h.fix i hi]
   simp [upUv,h9]
 bel:=h.bel
 s0:=by simpa [upLv,upUv] using h.s0
 s1:=by simpa [upLv,upUv] using h.s1
 s2:=by simpa [upLv,upUv] using h.s2
 s3:=by simpa [upLv,upUv] using h.s3
 s4:=by simpa [upLv,upUv] using h.s4
 s5:=by simpa [upLv,upUv] using h.s5
 s6:=fun _ => by simp [upUv]
 s7:=by simpa [upLv,upUv] using h.s7
 s8:=by simpa [upLv,upUv] using h.s8
 s9:=by simpa [upLv,upUv] using h.s9
 s10:=by simpa [upLv,upUv] using h.s10
 x:=by simpa [upLv,upUv] using h.x
 y:=by simpa [upLv,upUv] using h.y
 xy:=by simpa [upLv,upUv] using h.xy
 d13:=by simpa [upLv,upUv] using h.d13
 d14:=by simpa [upLv,upUv] using h.d14
theorem HV.pure7 (h : HV w0 G nv A g0 N c m sk na nb U0 L U w) : HV w0 G nv A g0 N c m sk na nb U0 (upLv L 7) (upUv U 33 (.pointer (some ⟨g0,1,none⟩))) w where
 fix:=fun i hi => by
   have h9 : i ≠ 33:=fun e => by subst e; cases hi
   rw [<- h.fix i hi]
   simp [upUv,h9]
 bel:=h.bel
 s0:=by simpa [upLv,upUv] using h.s0
 s1:=by simpa [upLv,upUv] using h.s1
 s2:=by simpa [upLv,upUv] using h.s2
 s3:=by simpa [upLv,upUv] using h.s3
 s4:=by simpa [upLv,upUv] using h.s4
 s5:=by simpa [upLv,upUv] using h.s5
 s6:=by simpa [upLv,upUv] using h.s6
 s7:=fun _ => by simp [upUv]
 s8:=by simpa [upLv,upUv] using h.s8
 s9:=by simpa [upLv,upUv] using h.s9
 s10:=by simpa [upLv,upUv] using h.s10
 x:=by simpa [upLv,upUv] using h.x
 y:=by simpa [upLv,upUv] using h.y
 xy:=by simpa [upLv,upUv] using h.xy
 d13:=by simpa [upLv,upUv] using h.d13
 d14:=by simpa [upLv,upUv] using h.d14
theorem HV.pure8 (h : HV w0 G nv A g0 N c m sk na nb U0 L U w) : HV w0 G nv A g0 N c m sk na nb U0 (upLv L 8) (upUv U 34 (.slice A N c)) w where
 fix:=fun i hi => by
   have h9 : i ≠ 34:=fun e => by subst e; cases hi
   rw [<- h.fix i hi]
   simp [upUv,h9]
 bel:=h.bel
 s0:=by simpa [upLv,upUv] using h.s0
 s1:=by simpa [upLv,upUv] using h.s1
 s2:=by simpa [upLv,upUv] using h.s2
 s3:=by simpa [upLv,upUv] using h.s3
 s4:=by simpa [upLv,upUv] using h.s4
 s5:=by simpa [upLv,upUv] using h.s5
 s6:=by simpa [upLv,upUv] using h.s6
 s7:=by simpa [upLv,upUv] using h.s7
 s8:=fun _ => by simp [upUv]
 s9:=by simpa [upLv,upUv] using h.s9
 s10:=by simpa [upLv,upUv] using h.s10
 x:=by simpa [upLv,upUv] using h.x
 y:=by simpa [upLv,upUv] using h.y
 xy:=by simpa [upLv,upUv] using h.xy
 d13:=by simpa [upLv,upUv] using h.d13
 d14:=by simpa [upLv,upUv] using h.d14
theorem HV.pure9 (h : HV w0 G nv A g0 N c m sk na nb U0 L U w) : HV w0 G nv A g0 N c m sk na nb U0 (upLv L 9) (upUv U 35 (.int .i64 (N : Int))) w where
 fix:=fun i hi => by
   have h9 : i ≠ 35:=fun e => by subst e; cases hi
   rw [<- h.fix i hi]
   simp [upUv,h9]
 bel:=h.bel
 s0:=by simpa [upLv,upUv] using h.s0
 s1:=by simpa [upLv,upUv] using h.s1
 s2:=by simpa [upLv,upUv] using h.s2
 s3:=by simpa [upLv,upUv] using h.s3
 s4:=by simpa [upLv,upUv] using h.s4
 s5:=by simpa [upLv,upUv] using h.s5
 s6:=by simpa [upLv,upUv] using h.s6
 s7:=by simpa [upLv,upUv] using h.s7
 s8:=by simpa [upLv,upUv] using h.s8
 s9:=fun _ => by simp [upUv]
 s10:=by simpa [upLv,upUv] using h.s10
 x:=by simpa [upLv,upUv] using h.x
 y:=by simpa [upLv,upUv] using h.y
 xy:=by simpa [upLv,upUv] using h.xy
 d13:=by simpa [upLv,upUv] using h.d13
 d14:=by simpa [upLv,upUv] using h.d14
theorem HV.call2 {v : Value} (h : HV w0 G nv A g0 N c m sk na nb U0 L U w) (hL : L 2=false) (hb : Below w.heap.size w w') (hv : XO w0 G v na) : HV w0 G nv A g0 N c m sk na nb U0 (upLv L 2) (upUv U 28 v) w' where
 fix:=fun i hi => by
   have h9 : i ≠ 28:=fun e => by subst e; cases hi
   rw [<- h.fix i hi]
   simp [upUv,h9]
 bel:=h.bel.trans (hb.mono h.bel.size)
 s0:=by simpa [upLv,upUv] using h.s0
 s1:=by simpa [upLv,upUv] using h.s1
 s2:=fun _ => by simpa [upUv] using hv
 s3:=by simpa [upLv,upUv] using h.s3
 s4:=by simpa [upLv,upUv] using h.s4
 s5:=by simpa [upLv,upUv] using h.s5
 s6:=by simpa [upLv,upUv] using h.s6
 s7:=by simpa [upLv,upUv] using h.s7
 s8:=by simpa [upLv,upUv] using h.s8
 s9:=by simpa [upLv,upUv] using h.s9
 s10:=by simpa [upLv,upUv] using h.s10
 x := by
   intro hl
   obtain ⟨g,e,h1,h2,h3⟩:=h.x (by simpa [upLv] using hl)
   refine ⟨g,by simpa [upUv] using e,h1,h2.below hb,fun hk => ?_⟩
   have h9:=(h.d13 (by simpa [upLv] using hk)).2
   rw [hL] at h9; cases h9
 y := by
   intro hl
   obtain ⟨g,e,h1,h2,h3⟩:=h.y (by simpa [upLv] using hl)
   refine ⟨g,by simpa [upUv] using e,h1,h2.below hb,fun hk => ?_⟩
   obtain ⟨cs,e2,hB⟩:=h3 (by simpa [upLv] using hk)
   exact ⟨cs,by simpa [upUv] using e2,hB.below hb hB.lt⟩
 xy:=by simpa [upLv,upUv] using h.xy
 d13:=fun hk => ⟨by simpa [upLv] using (h.d13 (by simpa [upLv] using hk)).1,by simp [upLv]⟩
 d14:=by simpa [upLv,upUv] using h.d14
theorem HV.call10 {v : Value} (h : HV w0 G nv A g0 N c m sk na nb U0 L U w) (hL : L 10=false) (hb : Below w.heap.size w w') (hv : XO w0 G v nb) : HV w0 G nv A g0 N c m sk na nb U0 (upLv L 10) (upUv U 36 v) w' where
 fix:=fun i hi => by
   have h9 : i ≠ 36:=fun e => by subst e; cases hi
   rw [<- h.fix i hi]
   simp [upUv,h9]
 bel:=h.bel.trans (hb.mono h.bel.size)
 s0:=by simpa [upLv,upUv] using h.s0
 s1:=by simpa [upLv,upUv] using h.s1
 s2:=by simpa [upLv,upUv] using h.s2
 s3:=by simpa [upLv,upUv] using h.s3
 s4:=by simpa [upLv,upUv] using h.s4
 s5:=by simpa [upLv,upUv] using h.s5
 s6:=by simpa [upLv,upUv] using h.s6
 s7:=by simpa [upLv,upUv] using h.s7
 s8:=by simpa [upLv,upUv] using h.s8
 s9:=by simpa [upLv,upUv] using h.s9
 s10:=fun _ => by simpa [upUv] using hv
 x := by
   intro hl
   obtain ⟨g,e,h1,h2,h3⟩:=h.x (by simpa [upLv] using hl)
   refine ⟨g,by simpa [upUv] using e,h1,h2.below hb,fun hk => ?_⟩
   obtain ⟨cs,e2,hB⟩:=h3 (by simpa [upLv] using hk)
   exact ⟨cs,by simpa [upUv] using e2,hB.below hb hB.lt⟩
 y := by
   intro hl
   obtain ⟨g,e,h1,h2,h3⟩:=h.y (by simpa [upLv] using hl)
   refine ⟨g,by simpa [upUv] using e,h1,h2.below hb,fun hk => ?_⟩
   have h9:=(h.d14 (by simpa [upLv] using hk)).2
   rw [hL] at h9; cases h9
 xy:=by simpa [upLv,upUv] using h.xy
 d13:=by simpa [upLv,upUv] using h.d13
 d14:=fun hk => ⟨by simpa [upLv] using (h.d14 (by simpa [upLv] using hk)).1,by simp [upLv]⟩
theorem HV.alloc11 {p0 p1 p2 : Value} (h : HV w0 G nv A g0 N c m sk na nb U0 L U w) (hL : L 11=false) : HV w0 G nv A g0 N c m sk na nb U0 (upLv L 11) (upUv U 11 (.pointer (some ⟨w.heap.size,0,none⟩))) (w.alloc (.cells #[p0,p1,p2] 89)) where
 fix:=fun i hi => by
   have h9 : i ≠ 11:=fun e => by subst e; cases hi
   rw [<- h.fix i hi]
   simp [upUv,h9]
 bel:=h.bel.alloc h.bel.size _
 s0:=by simpa [upLv,upUv] using h.s0
 s1:=by simpa [upLv,upUv] using h.s1
 s2:=by simpa [upLv,upUv] using h.s2
 s3:=by simpa [upLv,upUv] using h.s3
 s4:=by simpa [upLv,upUv] using h.s4
 s5:=by simpa [upLv,upUv] using h.s5
 s6:=by simpa [upLv,upUv] using h.s6
 s7:=by simpa [upLv,upUv] using h.s7
 s8:=by simpa [upLv,upUv] using h.s8
 s9:=by simpa [upLv,upUv] using h.s9
 s10:=by simpa [upLv,upUv] using h.s10
 x := by
   intro hl
   refine ⟨w.heap.size,by simp [upUv],h.bel.size,⟨p0,p1,p2,Blk.new _ _ _⟩,fun hk => ?_⟩
   have h9:=(h.d13 (by simpa [upLv] using hk)).1
   rw [hL] at h9; cases h9
 y := by
   intro hl
   obtain ⟨g,e,h1,h2,h3⟩:=h.y (by simpa [upLv] using hl)
   refine ⟨g,by simpa [upUv] using e,h1,h2.alloc _,fun hk => ?_⟩
   obtain ⟨cs,e2,hB⟩:=h3 (by simpa [upLv] using hk)
   exact ⟨cs,by simpa [upUv] using e2,hB.alloc _⟩
 xy:=by
   intro ha hb
   obtain ⟨g,e,h1,h2,h3⟩:=h.y (by simpa [upLv] using hb)
   have hlt:=h2.lt
   simp only [upUv]
   rw [if_pos trivial,if_neg (by decide),e]
   intro h9
   injection h9 with h9
   injection h9 with h9
   injection h9 with h9
   omega
 d13:=fun hk => ⟨by simp [upLv],by simpa [upLv] using (h.d13 (by simpa [upLv] using hk)).2⟩
 d14:=by simpa [upLv,upUv] using h.d14
theorem HV.alloc12 {p0 p1 p2 : Value} (h : HV w0 G nv A g0 N c m sk na nb U0 L U w) (hL : L 12=false) : HV w0 G nv A g0 N c m sk na nb U0 (upLv L 12) (upUv U 12 (.pointer (some ⟨w.heap.size,0,none⟩))) (w.alloc (.cells #[p0,p1,p2] 89)) where
 fix:=fun i hi => by
   have h9 : i ≠ 12:=fun e => by subst e; cases hi
   rw [<- h.fix i hi]
   simp [upUv,h9]
 bel:=h.bel.alloc h.bel.size _
 s0:=by simpa [upLv,upUv] using h.s0
 s1:=by simpa [upLv,upUv] using h.s1
 s2:=by simpa [upLv,upUv] using h.s2
 s3:=by simpa [upLv,upUv] using h.s3
 s4:=by simpa [upLv,upUv] using h.s4
 s5:=by simpa [upLv,upUv] using h.s5
 s6:=by simpa [upLv,upUv] using h.s6
 s7:=by simpa [upLv,upUv] using h.s7
 s8:=by simpa [upLv,upUv] using h.s8
 s9:=by simpa [upLv,upUv] using h.s9
 s10:=by simpa [upLv,upUv] using h.s10
 x := by
   intro hl
   obtain ⟨g,e,h1,h2,h3⟩:=h.x (by simpa [upLv] using hl)
   refine ⟨g,by simpa [upUv] using e,h1,h2.alloc _,fun hk => ?_⟩
   obtain ⟨cs,e2,hB⟩:=h3 (by simpa [upLv] using hk)
   exact ⟨cs,by simpa [upUv] using e2,hB.alloc _⟩
 y := by
   intro hl
   refine ⟨w.heap.size,by simp [upUv],h.bel.size,⟨p0,p1,p2,Blk.new _ _ _⟩,fun hk => ?_⟩
   have h9:=(h.d14 (by simpa [upLv] using hk)).1
   rw [hL] at h9; cases h9
 xy:=by
   intro ha hb
   obtain ⟨g,e,h1,h2,h3⟩:=h.x (by simpa [upLv] using ha)
   have hlt:=h2.lt
   simp only [upUv]
   rw [if_neg (by decide),if_pos trivial,e]
   intro h9
   injection h9 with h9
   injection h9 with h9
   injection h9 with h9
   omega
 d13:=by simpa [upLv,upUv] using h.d13
 d14:=fun hk => ⟨by simp [upLv],by simpa [upLv] using (h.d14 (by simpa [upLv] using hk)).2⟩
theorem HV.store13 {g : Nat} {u0 u1 u2 : Value} (h : HV w0 G nv A g0 N c m sk na nb U0 L U w) (ha : L 11=true) (hc : L 2=true) (hg : U 11=.pointer (some ⟨g,0,none⟩)) (hv : U 28=.agg #[u0,u1,u2]) : HV w0 G nv A g0 N c m sk na nb U0 (upLv L 13) U (((w.setCell ⟨g,0,none⟩ u0).setCell ⟨g,1,none⟩ u1).setCell ⟨g,2,none⟩ u2) where
 fix:=h.fix
 bel:=by
   obtain ⟨g',e,h1,h2,h3⟩:=h.x ha
   rw [hg] at e; injection e with e; injection e with e; injection e with e; subst e
   exact bel_s3 h.bel h1 _ _ _
 s0:=by simpa [upLv] using h.s0
 s1:=by simpa [upLv] using h.s1
 s2:=by simpa [upLv] using h.s2
 s3:=by simpa [upLv] using h.s3
 s4:=by simpa [upLv] using h.s4
 s5:=by simpa [upLv] using h.s5
 s6:=by simpa [upLv] using h.s6
 s7:=by simpa [upLv] using h.s7
 s8:=by simpa [upLv] using h.s8
 s9:=by simpa [upLv] using h.s9
 s10:=by simpa [upLv] using h.s10
 x := by
   intro hl
   obtain ⟨g',e,h1,h2,h3⟩:=h.x ha
   rw [hg] at e; injection e with e; injection e with e; injection e with e; subst e
   exact ⟨g,hg,h1,h2.set _ _ _ _,fun _ => ⟨_,hv,h2.own _ _ _⟩⟩
 y := by
   intro hl
   have hl2 : L 12=true:=by simpa [upLv] using hl
   obtain ⟨g',e,h1,h2,h3⟩:=h.y hl2
   refine ⟨g',e,h1,h2.set _ _ _ _,fun hk => ?_⟩
   obtain ⟨cs,e2,hB⟩:=h3 (by simpa [upLv] using hk)
   refine ⟨cs,e2,blk_far3 hB (fun e9 => ?_) _ _ _⟩
   subst e9
   exact h.xy ha hl2 (by rw [hg,e])
 xy:=by simpa [upLv] using h.xy
 d13:=fun _ => ⟨by simpa [upLv] using ha,by simpa [upLv] using hc⟩
 d14:=by simpa [upLv] using h.d14
theorem HV.store14 {g : Nat} {u0 u1 u2 : Value} (h : HV w0 G nv A g0 N c m sk na nb U0 L U w) (ha : L 12=true) (hc : L 10=true) (hg : U 12=.pointer (some ⟨g,0,none⟩)) (hv : U 36=.agg #[u0,u1,u2]) : HV w0 G nv A g0 N c m sk na nb U0 (upLv L 14) U (((w.setCell ⟨g,0,none⟩ u0).setCell ⟨g,1,none⟩ u1).setCell ⟨g,2,none⟩ u2) where
 fix:=h.fix
 bel:=by
   obtain ⟨g',e,h1,h2,h3⟩:=h.y ha
   rw [hg] at e; injection e with e; injection e with e; injection e with e; subst e
   exact bel_s3 h.bel h1 _ _ _
 s0:=by simpa [upLv] using h.s0
 s1:=by simpa [upLv] using h.s1
 s2:=by simpa [upLv] using h.s2
 s3:=by simpa [upLv] using h.s3
 s4:=by simpa [upLv] using h.s4
 s5:=by simpa [upLv] using h.s5
 s6:=by simpa [upLv] using h.s6
 s7:=by simpa [upLv] using h.s7
 s8:=by simpa [upLv] using h.s8
 s9:=by simpa [upLv] using h.s9
 s10:=by simpa [upLv] using h.s10
 x := by
   intro hl
   have hl2 : L 11=true:=by simpa [upLv] using hl
   obtain ⟨g',e,h1,h2,h3⟩:=h.x hl2
   refine ⟨g',e,h1,h2.set _ _ _ _,fun hk => ?_⟩
   obtain ⟨cs,e2,hB⟩:=h3 (by simpa [upLv] using hk)
   refine ⟨cs,e2,blk_far3 hB (fun e9 => ?_) _ _ _⟩
   subst e9
   exact h.xy hl2 ha (by rw [hg,e])
 y := by
   intro hl
   obtain ⟨g',e,h1,h2,h3⟩:=h.y ha
   rw [hg] at e; injection e with e; injection e with e; injection e with e; subst e
   exact ⟨g,hg,h1,h2.set _ _ _ _,fun _ => ⟨_,hv,h2.own _ _ _⟩⟩
 xy:=by simpa [upLv] using h.xy
 d13:=by simpa [upLv] using h.d13
 d14:=fun _ => ⟨by simpa [upLv] using ha,by simpa [upLv] using hc⟩
theorem HV.start (hb : Below w0.heap.size w0 w) : HV w0 G nv A g0 N c m sk na nb U0 (fun _ => false) U0 w where
 fix:=fun _ _ => rfl
 bel:=hb
 s0:=fun h => by cases h
 s1:=fun h => by cases h
 s2:=fun h => by cases h
 s3:=fun h => by cases h
 s4:=fun h => by cases h
 s5:=fun h => by cases h
 s6:=fun h => by cases h
 s7:=fun h => by cases h
 s8:=fun h => by cases h
 s9:=fun h => by cases h
 s10:=fun h => by cases h
 x:=fun h => by cases h
 y:=fun h => by cases h
 xy:=fun h => by cases h
 d13:=fun h => by cases h
 d14:=fun h => by cases h
end
section
variable {w0 w : World} {G : Nat->Prop} {nv kv : Value} {A : Option Addr} {g0 N c m sk best : Nat} {na nb : NodeP} {U0 : Nat->Value} {listed : Array Bool} {act : Act}
def U0V (a : Array Value) : Nat->Value:=fun n => a.getD n undef
def HI (w0 : World) (G : Nat->Prop) (nv kv : Value) (A : Option Addr) (g0 N c m sk best : Nat) (na nb : NodeP) (U0 : Nat->Value) (listed : Array Bool) (act : Act) (w : World) : Prop :=
 ∃ U : Nat->Value,act={ tmps:=#[nv,.pointer (some ⟨g0,0,none⟩),.pointer (some ⟨g0 + 1,0,none⟩),.slice none 0 0,.pointer (some ⟨g0 + 1 + 1,0,none⟩),.pointer (some ⟨g0 + 1 + 1 + 1,0,none⟩),.pointer (some ⟨g0 + 1 + 1 + 1 + 1,0,none⟩),kv,.int .i64 (best : Int),.int .i64 (sk : Int),.int .i64 (m : Int),U 11,U 12,U 13,U 14,U 15,U 16,U 17,U 18,U 19,U 20,U 21,U 22,U 23,U 24,U 25,U 26,U 27,U 28,U 29,U 30,U 31,U 32,U 33,U 34,U 35,U 36,U 37,U 38,U 39,U 40,U 41,U 42,U 43,U 44,U 45,U 46,U 47,U 48,U 49,U 50,U 51,U 52,U 53,U 54,U 55,U 56,U 57,U 58,U 59,U 60],defers:=[] }/\HV w0 G nv A g0 N c m sk na nb U0 (fun j => listed.getD j false) U w
theorem HI.mk {u11 u12 u13 u14 u15 u16 u17 u18 u19 u20 u21 u22 u23 u24 u25 u26 u27 u28 u29 u30 u31 u32 u33 u34 u35 u36 u37 u38 u39 u40 u41 u42 u43 u44 u45 u46 u47 u48 u49 u50 u51 u52 u53 u54 u55 u56 u57 u58 u59 u60 : Value} (hb : Below w0.heap.size w0 w) : HI w0 G nv kv A g0 N c m sk best na nb (U0V #[undef,undef,undef,undef,undef,undef,undef,undef,undef,undef,undef,u11,u12,u13,u14,u15,u16,u17,u18,u19,u20,u21,u22,u23,u24,u25,u26,u27,u28,u29,u30,u31,u32,u33,u34,u35,u36,u37,u38,u39,u40,u41,u42,u43,u44,u45,u46,u47,u48,u49,u50,u51,u52,u53,u54,u55,u56,u57,u58,u59,u60]) (Array.replicate 15 false) { tmps:=#[nv,.pointer (some ⟨g0,0,none⟩),.pointer (some ⟨g0 + 1,0,none⟩),.slice none 0 0,.pointer (some ⟨g0 + 1 + 1,0,none⟩),.pointer (some ⟨g0 + 1 + 1 + 1,0,none⟩),.pointer (some ⟨g0 + 1 + 1 + 1 + 1,0,none⟩),kv,.int .i64 (best : Int),.int .i64 (sk : Int),.int .i64 (m : Int),u11,u12,u13,u14,u15,u16,u17,u18,u19,u20,u21,u22,u23,u24,u25,u26,u27,u28,u29,u30,u31,u32,u33,u34,u35,u36,u37,u38,u39,u40,u41,u42,u43,u44,u45,u46,u47,u48,u49,u50,u51,u52,u53,u54,u55,u56,u57,u58,u59,u60],defers:=[] } w:=by
 refine ⟨U0V #[undef,undef,undef,undef,undef,undef,undef,undef,undef,undef,undef,u11,u12,u13,u14,u15,u16,u17,u18,u19,u20,u21,u22,u23,u24,u25,u26,u27,u28,u29,u30,u31,u32,u33,u34,u35,u36,u37,u38,u39,u40,u41,u42,u43,u44,u45,u46,u47,u48,u49,u50,u51,u52,u53,u54,u55,u56,u57,u58,u59,u60],rfl,?_⟩
 rw [show (fun j => (Array.replicate 15 false).getD j false)=fun _ => false from by
   funext j
   rw [Array.getD_eq_getD_getElem?,Array.getElem?_replicate]
   split <;> rfl]
 exact HV.start hb
theorem listed_upv (hs : listed.size=15) (i : Nat) (hi : i < 15) : (fun j => (listed.setIfInBounds i true).getD j false)=upLv (fun j => listed.getD j false) i:=by
 funext j
 simp only [upLv,Array.getD_eq_getD_getElem?]
 by_cases e : j=i
 · subst e
   rw [Array.getElem?_setIfInBounds_self_of_lt (by omega),if_pos rfl]; rfl
 · rw [Array.getElem?_setIfInBounds_ne (Ne.symm e),if_neg e]
theorem HI.next {Q : Exit->Act->World->Prop} (i : Nat) (hi : i < 15) (hs : listed.size=15) (U' : Nat->Value) (hx : act={ tmps:=#[nv,.pointer (some ⟨g0,0,none⟩),.pointer (some ⟨g0 + 1,0,none⟩),.slice none 0 0,.pointer (some ⟨g0 + 1 + 1,0,none⟩),.pointer (some ⟨g0 + 1 + 1 + 1,0,none⟩),.pointer (some ⟨g0 + 1 + 1 + 1 + 1,0,none⟩),kv,.int .i64 (best : Int),.int .i64 (sk : Int),.int .i64 (m : Int),U' 11,U' 12,U' 13,U' 14,U' 15,U' 16,U' 17,U' 18,U' 19,U' 20,U' 21,U' 22,U' 23,U' 24,U' 25,U' 26,U' 27,U' 28,U' 29,U' 30,U' 31,U' 32,U' 33,U' 34,U' 35,U' 36,U' 37,U' 38,U' 39,U' 40,U' 41,U' 42,U' 43,U' 44,U' 45,U' 46,U' 47,U' 48,U' 49,U' 50,U' 51,U' 52,U' 53,U' 54,U' 55,U' 56,U' 57,U' 58,U' 59,U' 60],defers:=[] })
   (hC : HV w0 G nv A g0 N c m sk na nb U0 (upLv (fun j => listed.getD j false) i) U' w) :
   withK (fun a' w' => HI w0 G nv kv A g0 N c m sk best na nb U0 (listed.setIfInBounds i true) a' w') Q .normal act w:=by
 refine ⟨U',hx,?_⟩
 rw [listed_upv hs i hi]
 exact hC
theorem getDv_false {i : Nat} (h : (!listed.getD i true)=true) : listed.getD i false=false:=by
 rw [Array.getD_eq_getD_getElem?] at h ⊢
 cases hx : listed[i]? with
 | none => rfl
 | some v => rw [hx] at h; simpa using h
end
theorem getDv_true {listed : Array Bool} {n : Nat} (hs : listed.size=n) (hall : ∀ i,i < n->listed.getD i true=true) (i : Nat) (hi : i < n) : listed.getD i false=true:=by
 have h:=hall i hi
 rw [Array.getD_eq_getD_getElem?,Array.getElem?_eq_getElem (by omega)] at h ⊢
 exact h
theorem run_copy_row1 (w : World) (ty : TypeId) (g off dLen dCap : Nat) (ad : Addr) (sLen sCap : Nat) (cur : Array Value) (cs : List Value) (hg : w.heap[g]?=some (.cells cur 3 (0,0))) (hn : cs.length=(Nat.min sLen dLen))
   (hsrc : ∀ j v,cs[j]?=some v->w.cell? (ad.add j)=some v) (hfit : off + cs.length<=cur.size) (h1 : ∀ v ∈ cs,v.oneCell'=true) :
   (Builtin.copy_ #[57,57] ty #[.slice (some ⟨g,off,none⟩) dLen dCap,.slice (some ad) sLen sCap]).run Tryz.prog w=.ok (goInt (Nat.min sLen dLen)) (w.setRow g (cur.toList.take off ++ (cs ++ cur.toList.drop (off + cs.length))).toArray):=by
 obtain ⟨i0,hi0,hz0,hz1,hz2⟩:=info_parts int_info
 have hl:=run_loadCells_list (P:=Tryz.prog) w ad cs hsrc
 have hst:=run_storeCells_at Tryz.prog g off 3 cs 0 cur w hg (by simpa using hfit) h1
 simp only [Nat.add_zero] at hst
 rw [hn] at hl
 simp [Builtin.copy_,run_underlying Tryz.underlying57,Builtin.lenOf,Builtin.firstCells,sizeOf,typeInfo,hi0,hz1,hl,hst,List.append_assoc]
def insInts (xs : List Value) (i : Nat) (vs : List Value) : List Value:=xs.take (i) ++ (vs ++ xs.drop (i))
def InsRetI (w : World) (base : Nat) (row : Option Nat) (n : Nat) (ys : List Value) (e : Ending) (w' : World) : Prop :=
 ∃ v',e=.returned v'/\w'.ownsRow base 3 1 v' (n + 1) ys/\w.grownBy w' row/\(∀ k,v'.ownBlock=some k->row=some k \/ w.heap.size<=k)
theorem insI_lists (T xs vs : List Value) (n i : Nat) (hT : T.take (n)=xs) (hl : (n + 1)<=T.length) (hi : i < n) (hv : vs.length=1) :
   (((T.take ((i + 1)) ++ (xs.drop (i) ++ T.drop ((i + 1) + (xs.drop (i)).length))).take (i) ++ (vs ++ (T.take ((i + 1)) ++ (xs.drop (i) ++ T.drop ((i + 1) + (xs.drop (i)).length))).drop (i + 1)))).take ((n + 1))=xs.take (i) ++ (vs ++ xs.drop (i)):=by
 have hxl : xs.length=n:=by rw [<- hT,List.length_take]; omega
 have e1 : (T.take ((i + 1)) ++ (xs.drop (i) ++ T.drop ((i + 1) + (xs.drop (i)).length))).take (i)=xs.take (i):=by
   rw [List.take_append_of_le_length (by rw [List.length_take]; omega),List.take_take,Nat.min_eq_left (by omega),<- hT,List.take_take,Nat.min_eq_left (by omega)]
 have e2 : (T.take ((i + 1)) ++ (xs.drop (i) ++ T.drop ((i + 1) + (xs.drop (i)).length))).drop (i + 1)=xs.drop (i) ++ T.drop ((i + 1) + (xs.drop (i)).length):=by
   exact List.drop_left' (by rw [List.length_take]; omega)
 rw [e1,e2,<- List.append_assoc,<- List.append_assoc,List.append_assoc (xs.take (i)) vs]
 rw [List.take_append_of_le_length (by simp only [List.length_append,List.length_take,List.length_drop,hv,hxl]; omega)]
 exact List.take_of_length_le (by simp only [List.length_append,List.length_take,List.length_drop,hv,hxl]; omega)
set_option maxHeartbeats 1000000 in
theorem insI_end (w : World) (base : Nat) (v : Value) (n : Nat) (xs : List Value) (hown : w.ownsRow base 3 1 v n xs) (g : Nat) (x0 : Value) (h1 : ∀ u ∈ [x0],u.oneCell'=true) (hb : Blk w g 3 #[x0]) (hn : n<=100000) (hbase : base<=w.heap.size) :
   Calls Tryz.prog 74 #[v,.int .i64 (n : Int),.slice (some ⟨g,0,none⟩) 1 1] w (InsRetI w base v.ownBlock n (xs ++ [x0])):=by
 obtain ⟨v',w',hrun,h2,h3,h4⟩:=run_app_rowI w base v n xs hown w.heap.size (some ⟨g,0,none⟩) 1 1 [x0] ⟨rfl,fun _ => ⟨_,rfl,hb.lt,fun j u hu => by
     rw [Addr.add_lit,Nat.zero_add,hb.cell]
     simpa using hu⟩⟩ h1 57 (by omega) hbase
 have hsl : ∃ A c,v=.slice A n c/\n<=c:=by
   rcases hown.2 with ⟨rfl,rfl⟩ | ⟨g,cap,cur,rfl,_,_,h3,_⟩
   · exact ⟨none,0,rfl,Nat.le_refl _⟩
   · exact ⟨_,_,rfl,h3⟩
 obtain ⟨A,c,rfl,hc⟩:=hsl
 have hnI : (n : Int)<=(c : Int):=by omega
 obtain ⟨row,hrow⟩ : ∃ row,row=(Value.slice A n c).ownBlock:=⟨_,rfl⟩
 rw [<- hrow] at h3 h4 ⊢
 have h5 : Hid (∀ k,v'.ownBlock=some k->row=some k \/ w.heap.size<=k):=hide (fun k hk => by
   rcases h4 with h4 | h4
   · exact .inl (h4.symm.trans hk)
   · rw [h4] at hk; injection hk with hk; exact .inr (by omega))
 clear h4
 replace hrow:=hide hrow
 replace hown:=hide hown
 replace hb:=hide hb
 replace h2:=hide h2
 replace h3:=hide h3
 clear h1
 go_enter Tryz.func74,Tryz.ntmps74
 go_wp2_with (at_builtin; refine Lib.wpList_append_run _ rfl (.tmp 23) (.tmp 24) 57 57 rfl _ _ rfl rfl _ _ hrun ?_)
 all_goals
   go_ret
   exact ⟨v',rfl,h2.out,h3.out,h5.out⟩
set_option maxHeartbeats 8000000 in
theorem insI_room (w : World) (base g0 cap : Nat) (n i : Nat) (xs : List Value) (cur : Array Value) (hg0 : base<=g0) (hrow : w.heap[g0]?=some (.cells cur 3 (0,0))) (hcs : cur.size=cap) (hxs : xs.length=n) (hti : cur.toList.take (n)=xs) (hi : i < n) (hroom : n + 1<=cap) (hcm : cap<=maxLen)
   (g : Nat) (hne : g ≠ g0) (x0 : Value) (h1 : ∀ u ∈ [x0],u.oneCell'=true) (h1x : ∀ u ∈ xs,u.oneCell'=true) (hb : Blk w g 3 #[x0]) (hn : n<=100000) :
   Calls Tryz.prog 74 #[.slice (some ⟨g0,0,none⟩) n cap,.int .i64 (i : Int),.slice (some ⟨g,0,none⟩) 1 1] w (InsRetI w base (some g0) n (insInts xs i [x0])):=by
 have hne2 : ((i : Int) == (n : Int))=false:=by rw [beq_eq_false_iff_ne]; omega
 have hiI : (i : Int)<=(n : Int):=by omega
 have hnc : (n : Int)<=(cap : Int):=by omega
 have hr1 : (n : Int) + 1<=(cap : Int):=by omega
 have hn6 : (n : Int)<=100000:=by omega
 obtain ⟨N1,hN1⟩ : ∃ N1,N1=n + 1:=⟨_,rfl⟩
 have hNI : (n : Int) + 1=(N1 : Int):=by omega
 have hNc : (N1 : Int)<=(cap : Int):=by omega
 have hND : decide ((cap : Int) < (N1 : Int))=false:=by rw [decide_eq_false_iff_not]; omega
 have hNW : IntKind.i64.wrap (N1 : Int)=(N1 : Int):=IntWalk.i64_in _ (by omega)
 have hiN : (i : Int)<=(N1 : Int):=by omega
 obtain ⟨J,hJ⟩ : ∃ J,J=i + 1:=⟨_,rfl⟩
 have hJI : (i : Int) + 1=(J : Int):=by omega
 have hJW : IntKind.i64.wrap (J : Int)=(J : Int):=IntWalk.i64_in _ (by omega)
 have hJN : (J : Int)<=(N1 : Int):=by omega
 have hov : (callFunc 121 #[.slice (some ⟨g,0,none⟩) 1 1,.slice (some ⟨g0,J,none⟩) (N1 - J) (cap - J)]).run Tryz.prog w=.ok (.value (.bool false)) w:=by
   rw [run_callFunc_extern (P:=Tryz.prog) (f:=121) Tryz.func121 (by kernel_rfl) (by kernel_rfl) (by kernel_rfl) (e:=Extern.SlicesOverlaps.overlaps #[57,57] #[1]) (by kernel_rfl),
     Lib.run_overlaps_apart w 57 1 3 Tryz.underlying57 1 Tryz.sizeOf3 ⟨g,0,none⟩ ⟨g0,J,none⟩ 1 1 (N1 - J) (cap - J) hne 3 3 1 cur.size (by unfold Blk at hb; simp [World.shape?,hb]) (by simp [World.shape?,hrow]) (by omega) (hb.frozen 0) (hb.frozen 1)]
   rfl
 have hdl : (xs.drop (i)).length=(n - i):=by rw [List.length_drop,hxs]
 have hmin : Nat.min (N1 - i) (N1 - J)=n - i:=by show min (N1 - i) (N1 - J)=n - i; omega
 obtain ⟨C1,hC1⟩ : ∃ C1,C1=(cur.toList.take (J) ++ (xs.drop (i) ++ cur.toList.drop (J + (xs.drop (i)).length))).toArray:=⟨_,rfl⟩
 have hcp1:=run_copy_row1 w.drew 3 g0 (J) (N1 - J) (cap - J) ⟨g0,i,none⟩ (N1 - i) (cap - i) cur (xs.drop (i)) hrow (by rw [hmin,hdl]) (fun j v hj => by
   rw [Addr.add_lit]
   have h2 : w.cell? ⟨g0,i + j,none⟩=cur[i + j]?:=(show Blk w g0 3 cur from hrow).cell _
   have h3 : w.drew.cell? ⟨g0,i + j,none⟩=w.cell? ⟨g0,i + j,none⟩:=rfl
   rw [h3,h2]
   have hj2:=(List.getElem?_eq_some_iff.1 hj).1
   rw [List.getElem?_drop,<- hti,List.getElem?_take,if_pos (by rw [hdl] at hj2; omega)] at hj
   simpa using hj) (by rw [hdl,hcs]; omega) (fun v hv => h1x v (List.mem_of_mem_drop hv))
 rw [<- hC1,hmin] at hcp1
 have hC1s : C1.size=cap:=by rw [hC1]; simp [hdl,hcs] <;> omega
 have hB1 : Blk (w.drew.setRow g0 C1) g0 3 C1:=setRow_heap w.drew g0 cur C1 3 (0,0) hrow
 have hbg1 : Blk (w.drew.setRow g0 C1) g 3 #[x0]:=(setRow_other w.drew g0 g C1 hne).trans hb
 have hmin2 : Nat.min 1 (N1 - i)=1:=by show min 1 (N1 - i)=1; omega
 obtain ⟨C2,hC2⟩ : ∃ C2,C2=(C1.toList.take (i) ++ ([x0] ++ C1.toList.drop (i + [x0].length))).toArray:=⟨_,rfl⟩
 have hcp2:=run_copy_row1 (w.drew.setRow g0 C1) 3 g0 (i) (N1 - i) (cap - i) ⟨g,0,none⟩ 1 1 C1 [x0] hB1 (by rw [hmin2]; rfl) (fun j v hj => by
   rw [Addr.add_lit,Nat.zero_add,hbg1.cell]
   simpa using hj) (by rw [hC1s]; simp; omega) h1
 rw [<- hC2,hmin2] at hcp2
 have hfin : Hid (InsRetI w base (some g0) n (insInts xs i [x0]) (.returned (.slice (some ⟨g0,0,none⟩) N1 cap)) ((w.drew.setRow g0 C1).setRow g0 C2)):=hide (by
   have hC2s : C2.size=cap:=by rw [hC2]; simp [hC1s] <;> omega
   have hll:=insI_lists cur.toList xs [x0] n i hti (by simp [hcs] <;> omega) hi rfl
   refine ⟨_,rfl,?_,⟨rfl,rfl,rfl,by simp [World.setRow],fun k hk hkk => ?_⟩,fun k hk => .inl hk⟩
   · rw [hN1]
     simp only [World.ownsRow,Nat.mul_one]
     refine ⟨?_,.inr ⟨g0,cap,C2,rfl,hg0,setRow_heap (w.drew.setRow g0 C1) g0 C1 C2 3 (0,0) hB1,hroom,hcm,hC2s,?_⟩⟩
     · unfold insInts; simp [hdl,hxs] <;> omega
     · rw [hC2, hC1, hJ]
       exact hll
   · have hk0 : k ≠ g0 := fun e => hkk (by rw [e])
     rw [setRow_other (w.drew.setRow g0 C1) g0 k C2 hk0,setRow_other w.drew g0 k C1 hk0]; rfl)
 have hJc : ¬ cap=J:=by omega
 have hic : ¬ cap=i:=by omega
 clear h1 h1x
 replace hcp1 : Hid _:=hide hcp1
 replace hcp2 : Hid _:=hide hcp2
 replace hB1:=hide hB1
 replace hbg1:=hide hbg1
 replace hC1:=hide hC1
 replace hC2:=hide hC2
 replace hC1s:=hide hC1s
 replace hmin:=hide hmin
 replace hmin2:=hide hmin2
 replace hdl:=hide hdl
 replace hN1:=hide hN1
 replace hJ:=hide hJ
 replace hrow:=hide hrow
 replace hb:=hide hb
 replace hti:=hide hti
 replace hcs:=hide hcs
 replace hxs:=hide hxs
 go_enter Tryz.func74,Tryz.ntmps74
 go_wp2_with (simp only [hov])
 go_region_law (refine wp_copy_runI _ (.tmp 73) (.tmp 76) 57 57 rfl (.slice (some ⟨g0,J,none⟩) (N1 - J) (cap - J)) (.slice (some ⟨g0,i,none⟩) (N1 - i) (cap - i)) (by simp [Act.eval,Act.put]) (by simp [Act.eval,Act.put]) hcp1.out ?_)
 go_wp2
 rw [hcp2.out]
 go_wp2
 all_goals
   go_ret
   exact hfin.out
theorem insgI_lists (R xs vs : List Value) (n i : Nat) (hR : R.take (i)=xs.take (i)) (hl : (n + 1)<=R.length) (hxl : xs.length=n) (hi : i < n) (hv : vs.length=1) :
   (((R.take (i) ++ (vs ++ R.drop (i + vs.length))).take ((i + 1))) ++ (xs.drop (i) ++ (R.take (i) ++ (vs ++ R.drop (i + vs.length))).drop ((i + 1) + (xs.drop (i)).length))).take ((n + 1))=xs.take (i) ++ (vs ++ xs.drop (i)):=by
 have e1 : (R.take (i) ++ (vs ++ R.drop (i + vs.length))).take ((i + 1))=xs.take (i) ++ vs:=by
   rw [<- List.append_assoc,hR]
   exact List.take_left' (by rw [List.length_append,List.length_take,hxl,hv]; omega)
 rw [e1,<- List.append_assoc (xs.take (i)) vs (xs.drop (i)),<- List.append_assoc (xs.take (i) ++ vs) (xs.drop (i))]
 exact List.take_left' (by simp only [List.length_append,List.length_take,List.length_drop,hv,hxl]; omega)
set_option maxHeartbeats 1000000 in
theorem insI_grow (w : World) (base g0 : Nat) (n i : Nat) (xs : List Value) (cur : Array Value) (hbase : base<=w.heap.size) (hrow : w.heap[g0]?=some (.cells cur 3 (0,0))) (hxs : xs.length=n) (hti : cur.toList.take (n)=xs) (hi : i < n)
   (g : Nat) (x0 : Value) (h1 : ∀ u ∈ [x0],u.oneCell'=true) (h1x : ∀ u ∈ xs,u.oneCell'=true) (hb : Blk w g 3 #[x0]) (hn : n<=100000) :
   Calls Tryz.prog 74 #[.slice (some ⟨g0,0,none⟩) n n,.int .i64 (i : Int),.slice (some ⟨g,0,none⟩) 1 1] w (InsRetI w base (some g0) n (insInts xs i [x0])):=by
 obtain ⟨i0,hi0,hz0,hz1,hz2⟩:=info_parts int_info
 have hne2 : ((i : Int) == (n : Int))=false:=by rw [beq_eq_false_iff_ne]; omega
 have hiI : (i : Int)<=(n : Int):=by omega
 have hn6 : (n : Int)<=100000:=by omega
 have hg0lt : g0 < w.heap.size:=by
   rcases Nat.lt_or_ge g0 w.heap.size with h | h
   · exact h
   · rw [Array.getElem?_eq_none h] at hrow; cases hrow
 have hglt : g < w.heap.size:=hb.lt
 obtain ⟨N1,hN1⟩ : ∃ N1,N1=n + 1:=⟨_,rfl⟩
 have hNI : (n : Int) + 1=(N1 : Int):=by omega
 have hND : decide ((n : Int) < (N1 : Int))=true:=by rw [decide_eq_true_iff]; omega
 have hNDn : decide (n < N1)=true:=by rw [decide_eq_true_iff]; omega
 have hNW : IntKind.i64.wrap (N1 : Int)=(N1 : Int):=IntWalk.i64_in _ (by omega)
 have hiN : (i : Int)<=(N1 : Int):=by omega
 obtain ⟨J,hJ⟩ : ∃ J,J=i + 1:=⟨_,rfl⟩
 have hJI : (i : Int) + 1=(J : Int):=by omega
 have hJW : IntKind.i64.wrap (J : Int)=(J : Int):=IntWalk.i64_in _ (by omega)
 have hJN : (J : Int)<=(N1 : Int):=by omega
 obtain ⟨M,hM⟩ : ∃ M,M=n + 1 - i:=⟨_,rfl⟩
 have hMI : (N1 : Int) - (i : Int)=(M : Int):=by omega
 have hMW : IntKind.i64.wrap (M : Int)=(M : Int):=IntWalk.i64_in _ (by omega)
 obtain ⟨G,hG⟩ : ∃ G,G=grownCap w N1 n 3:=⟨_,rfl⟩
 have hGn : N1<=G:=by rw [hG]; exact grownCap_ge w _ _ _
 have hGI : (N1 : Int)<=(G : Int):=by omega
 have hGm : G<=maxLen:=by rw [hG]; exact grownCap_le_maxLen w N1 n 3 (by unfold maxLen; omega)
 have hG63 : (G : Int)<=9223372036854775807:=by unfold maxLen at hGm; omega
 obtain ⟨B,hB⟩ : ∃ B,B=w.heap.size:=⟨_,rfl⟩
 obtain ⟨ROW,hROW⟩ : ∃ ROW : Array Value,ROW=(xs.take (i)).toArray ++ Builtin.zeroCells (Value.int .i64 0).cells M ++ Builtin.zeroCells (Value.int .i64 0).cells (G - N1):=⟨_,rfl⟩
 have hRs : ROW.size=G:=by
   rw [hROW]
   simp only [Array.size_append,List.size_toArray,List.length_take,size_zeroCells,hxs]
   have e1 : (Value.int .i64 0).cells.size=1:=rfl
   rw [e1]
   omega
 obtain ⟨W1,hW1⟩ : ∃ W1,W1=w.drew.alloc (.cells ROW 3):=⟨_,rfl⟩
 have hcellx : ∀ j v,xs[j]?=some v->w.cell? ⟨g0,j,none⟩=some v:=fun j v hj => by
   rw [(show Blk w g0 3 cur from hrow).cell]
   have hj2:=(List.getElem?_eq_some_iff.1 hj).1
   rw [<- hti,List.getElem?_take,if_pos (by omega)] at hj
   simpa using hj
 have hold : (Builtin.firstCells i0.size i (.slice (some ⟨g0,0,none⟩) i n)).run Tryz.prog w.drew=.ok (xs.take (i)).toArray w.drew:=by
   rw [hz1]
   exact run_firstCells_some w.drew 1 i ⟨g0,0,none⟩ i n (xs.take (i)) (by rw [List.length_take,hxs]; omega) (fun j v hj => by
     rw [Addr.add_lit]
     rw [List.getElem?_take] at hj
     split at hj
     · simpa using hcellx j v hj
     · cases hj)
 have hrz : ∀ ty,(Builtin.append_ #[57,3] ty #[.slice (some ⟨g0,0,none⟩) i n,.int .i64 (M : Int)]).run Tryz.prog w=.ok (.slice (some ⟨B,0,none⟩) N1 G) W1:=fun ty => by
   have h:=Lib.run_append_grow_zeros w 57 3 ty 3 i0 _ .i64 .i64 Tryz.underlying57 Tryz.underlying3 hi0 hz0 (some ⟨g0,0,none⟩) i n (xs.take (i)) hold M (by omega) (by omega) (by omega) (by omega) (by rw [hz2]; omega) (by rw [hz2]; exact growslice_fits (by omega) (by omega))
   have e : i + M=N1:=by omega
   rw [e,<- hG,<- hROW,<- hW1,<- hB] at h
   exact h
 have hb1 : Blk W1 B 3 ROW:=by rw [hW1,hB]; exact heap_alloc_new w.drew _
 have hbx : ∀ k ob,w.heap[k]?=some ob->W1.heap[k]?=some ob:=fun k ob h => by
   have hk : k < w.heap.size:=by
     rcases Nat.lt_or_ge k w.heap.size with h2 | h2
     · exact h2
     · rw [Array.getElem?_eq_none h2] at h; cases h
   rw [hW1]; exact (Below.heap_alloc w.drew _ k hk).trans h
 have hbg1 : Blk W1 g 3 #[x0]:=hbx g _ hb
 have hrow1 : Blk W1 g0 3 cur:=hbx g0 _ hrow
 have hgB : g ≠ B:=by omega
 have hg0B : g0 ≠ B:=by omega
 have hmin1 : Nat.min 1 (N1 - i)=1:=by show min 1 (N1 - i)=1; omega
 obtain ⟨C1,hC1⟩ : ∃ C1,C1=(ROW.toList.take (i) ++ ([x0] ++ ROW.toList.drop (i + [x0].length))).toArray:=⟨_,rfl⟩
 have hcp1:=run_copy_row1 W1 3 B (i) (N1 - i) (G - i) ⟨g,0,none⟩ 1 1 ROW [x0] hb1 (by rw [hmin1]; rfl) (fun j v hj => by
   rw [Addr.add_lit,Nat.zero_add,hbg1.cell]
   simpa using hj) (by rw [hRs]; simp; omega) h1
 rw [<- hC1,hmin1] at hcp1
 have hC1s : C1.size=G:=by rw [hC1]; simp [hRs] <;> omega
 obtain ⟨W2,hW2⟩ : ∃ W2,W2=W1.setRow B C1:=⟨_,rfl⟩
 rw [<- hW2] at hcp1
 have hb2 : Blk W2 B 3 C1:=by rw [hW2]; exact setRow_heap W1 B ROW C1 3 (0,0) hb1
 have hrow2 : Blk W2 g0 3 cur:=by rw [hW2]; exact (setRow_other W1 B g0 C1 hg0B).trans hrow1
 have hdl : (xs.drop (i)).length=(n - i):=by rw [List.length_drop,hxs]
 have hmin2 : Nat.min (n - i) (N1 - J)=n - i:=by show min (n - i) (N1 - J)=n - i; omega
 obtain ⟨C2,hC2⟩ : ∃ C2,C2=(C1.toList.take (J) ++ (xs.drop (i) ++ C1.toList.drop (J + (xs.drop (i)).length))).toArray:=⟨_,rfl⟩
 have hcp2:=run_copy_row1 W2.drew 3 B (J) (N1 - J) (G - J) ⟨g0,i,none⟩ (n - i) (n - i) C1 (xs.drop (i)) hb2 (by rw [hmin2,hdl]) (fun j v hj => by
   rw [Addr.add_lit]
   have h3 : W2.drew.cell? ⟨g0,i + j,none⟩=W2.cell? ⟨g0,i + j,none⟩:=rfl
   rw [h3,hrow2.cell,<- (show Blk w g0 3 cur from hrow).cell]
   rw [List.getElem?_drop] at hj
   exact hcellx _ _ hj) (by rw [hdl,hC1s]; omega) (fun v hv => h1x v (List.mem_of_mem_drop hv))
 rw [<- hC2,hmin2] at hcp2
 have hfin : Hid (InsRetI w base (some g0) n (insInts xs i [x0]) (.returned (.slice (some ⟨B,0,none⟩) N1 G)) (W2.drew.setRow B C2)):=hide (by
   have hC2s : C2.size=G:=by rw [hC2]; simp [hdl,hC1s] <;> omega
   have hRt : ROW.toList.take (i)=xs.take (i):=by
     rw [hROW]
     simp only [Array.toList_append,List.append_assoc]
     exact List.take_left' (by rw [List.length_take,hxs]; omega)
   have hll:=insgI_lists ROW.toList xs [x0] n i hRt (by simp [hRs] <;> omega) hxs hi rfl
   refine ⟨_,rfl,?_,⟨by rw [hW2,hW1]; rfl,by rw [hW2,hW1]; rfl,by rw [hW2,hW1]; rfl,by rw [hW2,hW1]; simp [World.setRow],fun k hk hkk => ?_⟩,fun k hk => by
     have e9 : B=k:=by injection hk
     exact .inr (by omega)⟩
   · rw [hN1]
     simp only [World.ownsRow,Nat.mul_one]
     refine ⟨?_,.inr ⟨B,G,C2,rfl,by omega,setRow_heap W2.drew B C1 C2 3 (0,0) hb2,by omega,hGm,hC2s,?_⟩⟩
     · unfold insInts; simp [hdl,hxs] <;> omega
     · rw [hC2, hC1, hJ]
       exact hll
   · have hk0 : k ≠ B := by omega
     rw [setRow_other W2.drew B k C2 hk0,show W2.drew.heap=W2.heap from rfl,hW2,setRow_other W1 B k C1 hk0,hW1]
     exact Below.heap_alloc w.drew _ k (show k < w.heap.size by omega))
 have hGi : ¬ G=i:=by omega
 have hGj : ¬ G=J:=by omega
 have hni : ¬ n=i:=by omega
 clear h1 h1x hold hcellx hbx
 replace hcp1 : Hid _:=hide hcp1
 replace hcp2 : Hid _:=hide hcp2
 replace hb1:=hide hb1
 replace hb2:=hide hb2
 replace hbg1:=hide hbg1
 replace hrow1:=hide hrow1
 replace hrow2:=hide hrow2
 replace hC1:=hide hC1
 replace hC2:=hide hC2
 replace hC1s:=hide hC1s
 replace hmin1:=hide hmin1
 replace hmin2:=hide hmin2
 replace hdl:=hide hdl
 replace hN1:=hide hN1
 replace hJ:=hide hJ
 replace hM:=hide hM
 replace hG:=hide hG
 replace hB:=hide hB
 replace hW1:=hide hW1
 replace hW2:=hide hW2
 replace hROW:=hide hROW
 replace hRs:=hide hRs
 replace hrow:=hide hrow
 replace hb:=hide hb
 replace hti:=hide hti
 replace hxs:=hide hxs
 clear hi0 hz0 hz1 hz2
 go_enter Tryz.func74,Tryz.ntmps74
 go_wp2_with (at_builtin; refine Lib.wpList_append_run _ rfl _ _ _ _ rfl _ _ rfl rfl _ _ (hrz _) ?_)
 rw [hcp1.out]
 go_wp2
 go_region_law (refine wp_copy_runI _ (.tmp 50) (.tmp 53) 57 57 rfl (.slice (some ⟨B,J,none⟩) (N1 - J) (G - J)) (.slice (some ⟨g0,i,none⟩) (n - i) (n - i)) (by simp [Act.eval,Act.put]) (by simp [Act.eval,Act.put]) hcp2.out ?_)
 go_wp2
 all_goals
   go_ret
   exact hfin.out
theorem insI_any (w : World) (base : Nat) (v : Value) (n i : Nat) (xs : List Value) (hown : w.ownsRow base 3 1 v n xs) (hi : i<=n) (hbase : base<=w.heap.size) (h1x : ∀ u ∈ xs,u.oneCell'=true)
   (g : Nat) (hgb : g < base \/ v.ownBlock ≠ some g) (x0 : Value) (h1 : ∀ u ∈ [x0],u.oneCell'=true) (hb : Blk w g 3 #[x0]) (hn : n<=100000) :
   Calls Tryz.prog 74 #[v,.int .i64 (i : Int),.slice (some ⟨g,0,none⟩) 1 1] w (InsRetI w base v.ownBlock n (insInts xs i [x0])):=by
 have hxs:=hown.1
 rw [Nat.mul_one] at hxs
 by_cases hin : i=n
 · subst hin
   have h:=insI_end w base v i xs hown g x0 h1 hb hn hbase
   have e : insInts xs i [x0]=xs ++ [x0]:=by
     unfold insInts
     rw [List.take_of_length_le (by omega),List.drop_of_length_le (by omega),List.append_nil]
   rw [e]; exact h
 · rcases hown.2 with ⟨rfl, rfl⟩ | ⟨g0, cap, cur, rfl, hbg, hg, hnc, hcm, hcs, htake⟩
   · simp at hxs; omega
   · rw [Nat.mul_one] at hcs htake
     have hne : g ≠ g0:=by
       rcases hgb with h | h
       · omega
       · intro e; exact h (by rw [e]; rfl)
     by_cases hroom : n + 1<=cap
     · exact insI_room w base g0 cap n i xs cur hbg hg hcs hxs htake (by omega) hroom hcm g hne x0 h1 h1x hb hn
     · obtain rfl : cap = n := by omega
       exact insI_grow w base g0 cap i xs cur hbase hg hxs htake (by omega) g x0 h1 h1x hb hn
end Go.Proofs.YtiiljlmeililbaaGreatDoor
