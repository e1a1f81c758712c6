/-
  Contracts of the string builder's copyCheck, WriteByte and String at a builder that the call itself made (after the kit's shelf, whose own copyCheck does not fit this program's text).
-/
import Derived.Test.YtajdeapdgbnahaaGreatDoorCyLexD
namespace Go.Proofs.YtajdeapdgbnahaaGreatDoor
set_option linter.unusedVariables false
set_option maxRecDepth 100000
set_option maxHeartbeats 1000000
section
open Go.RowKit
theorem pV:(Tryz.prog.info? 200).map (·.size)=some 2:=by kernel_rfl
theorem xG:liesAt Tryz.prog Tryz.prog.depth 200 (2/Tryz.prog.cellsOf 200) 0 200 1=true:=by kernel_rfl
theorem tT(b:Nat)(w:World)(d:w.cell? ⟨b,0,none⟩=some (.pointer (some ⟨b,0,none⟩))):Calls Tryz.prog 174 #[.pointer (some ⟨b,0,none⟩)] w λe w'=>e=.returned (.tuple #[])/\w=w':=by
 obtain⟨j,c,_⟩:=Option.map_eq_some_iff.1 pV;go_enter Tryz.func174,Tryz.ntmps174;go_wp2;rw[Lib.run_neq_ptr_same w _ Tryz.underlying198 c];go_wp2
 go_end0
 exact⟨rfl,rfl⟩
theorem rC(b:Nat)(w:World)(i:w.cell? ⟨b,0,none⟩=some (.pointer none))(c:w.shape? b=some (200,2))(g:w.frozen? ⟨b,0,none⟩=false):Calls Tryz.prog 174 #[.pointer (some ⟨b,0,none⟩)] w λe w'=>e=.returned (.tuple #[])/\w.setCell ⟨b,0,none⟩ (.pointer (some ⟨b,0,none⟩))=w':=by
 obtain⟨j,d,f⟩:=Option.map_eq_some_iff.1 pV;go_enter Tryz.func174,Tryz.ntmps174;go_wp2;rw[Lib.run_to_unsafe w ⟨b,0,none⟩ Tryz.underlying198 Tryz.underlying285 d (by rw[f];decide) c (Nat.zero_lt_succ 1)];simp only[Result.andThen];rw[Oper.upon_value];go_wp2;rw[run_callFunc_extern Tryz.func204 (by kernel_rfl) (by kernel_rfl) (by kernel_rfl) (e:=Extern.AbiNoEscape.same) (by kernel_rfl)];rw[Lib.run_noEscape];simp only[Result.andThen];rw[Oper.upon_value];go_wp2;rw[Lib.run_from_unsafe w ⟨b,0,none⟩ Tryz.underlying285 Tryz.underlying198 d c xG];simp only[Result.andThen];rw[Oper.upon_value];go_wp2
 go_end0
 exact⟨rfl,rfl⟩
def KI(B b:Nat)(l:List UInt8)(w:World):Prop:=Lib.IsBuilder 200 5 B b (Lib.byteCells l) w
theorem uh(B b:Nat)(l:List UInt8)(w:World)(h:KI B b l w):Calls Tryz.prog 174 #[.pointer (some ⟨b,0,none⟩)] w λe w'=>e=.returned (.tuple #[])/\(Lib.BuilderAt 200 5 B b (.pointer (some ⟨b,0,none⟩)) (Lib.byteCells l) w'/\Below B w w'):=by
 rcases h with h|h
 ·refine(rC b w h.cell0 h.shape h.frozen0).mono ?_;rintro e w' ⟨rfl,rfl⟩;exact⟨rfl,h.used _,(Below.refl B w).setCell (p:=⟨b,0,none⟩) h.1 _⟩
 ·refine(tT b w h.cell0).mono ?_;rintro e w' ⟨rfl,rfl⟩;exact⟨rfl,h,Below.refl B _⟩
theorem nT(B b:Nat)(l:List UInt8)(c:UInt8)(w:World)(h:KI B b l w)(u:l.length+1<=140737488351232)(N:B<=w.heap.size):Calls Tryz.prog 118 #[.pointer (some ⟨b,0,none⟩),.int .u8 (c.toNat:Int)] w λe w'=>e=.returned .nilIface/\KI B b (l++[c]) w'/\Below B w w':=by
 have F:=J h;have q:∃x:Int,x=(c.toNat:Int):=⟨_,rfl⟩;clear h;obtain⟨x,q⟩:=q;rw[<-q];have G:=J q;clear q;go_enter Tryz.func118,Tryz.ntmps118;go_wp2_with fail;refine(uh B b l w F.o).mono ?_;rintro e r ⟨rfl,H,s⟩;obtain⟨C,v,f,d,j⟩:=H;rw[show Lib.byteCells l=bv l from rfl,dn]at d;have K:r.cell? ⟨b,0,none⟩=some (.pointer (some ⟨b,0,none⟩)):=by rw[Lib.cell_of_heap f];rfl
 have L:r.cell? ⟨b,1,none⟩=some v:=by rw[Lib.cell_of_heap f];rfl
 have M:=s.size;refine bf ?_ f j d;clear f j d;intro f j d;have D:b<r.heap.size:=by
  have:=f.o;rcases aA b r.heap.size with y|y
  ·exact y
  ·simp[Array.getElem?_eq_none y]at this
 have z:=J (show ∀g:World,r.grownBy g v.ownBlock->g.heap[b]?=some (.cells #[.pointer (some ⟨b,0,none⟩),v] 200 (0,0))fromλg k=>(k.block b D (λe=>j.o e.symm)).trans f.o);go_wp2_with(at_builtin;refine lI c G.o rfl (.tmp 11) (.tmp 13) rfl B v _ _ d.o rfl _ rfl u (by omega) ?_;intro O g m t k;obtain⟨P,S,rfl,_⟩:=m.form;have i:=J (z.o g k);have U:g.cell? ⟨b,1,none⟩=some v:=by{ rw[Lib.cell_of_heap i.o];rfl };have V:g.frozen? ⟨b,1,none⟩=false:=Lib.frozen_of_heap i.o 1;have E:=s.trans t;replace m:=J m;clear K L s t k d f);go_ret;refine⟨rfl,Or.inr ?_,E.setCell (p:=⟨b,1,none⟩) C _⟩;exact Lib.BuilderAt.put (T:=200) (e:=5) C i.o (bs':=Lib.byteCells (l++[c])) (by have:=m.o;unfold OB at this;rw[show Lib.byteCells (l++[c])=bv (l++[c])from rfl,dn,aq];exact this) (by decide)
theorem xH(B b:Nat)(l:List UInt8)(w:World)(h:KI B b l w)(c:B<=w.heap.size):Calls Tryz.prog 119 #[.pointer (some ⟨b,0,none⟩)] w λe w'=>e=.returned (.string (str l))/\Below B w w':=Tryz.Builder_String_any B b l w h c
theorem KI.fresh(w:World):KI w.heap.size w.heap.size [] (w.alloc (.cells #[.pointer none,.slice none 0 0] 200)):=Lib.fresh_isBuilder _ _ w
section
variable {w w':World}{base B n:Nat}{v:Value}{A:Option Addr}
end
section
variable {ops:Array Oper}{rest:List Oper}{o:Oper}{a:Act}{Q:Exit->Act->World->Prop}
end
theorem qj{B g i:Nat}{a w:World}(h:Below B a w)(b:B<=g)(u:Value):Below B a (w.setCell ⟨g,i,none⟩ u):=h.setCell (p:=⟨g,i,none⟩) b u
end
end Go.Proofs.YtajdeapdgbnahaaGreatDoor
