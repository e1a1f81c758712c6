/-
  Proved: TreeEmpties, for every input (the library's listed tables as its text lays them) the law returns true and leaves its arguments as they were. No condition.
-/
import Derived.Test.YtiiljlmeililbaaGreatDoorBeDoor
import Derived.Test.YtiiljlmeililbaaGreatDoorTie
import Derived.Test.YtiiljlmeililbaaGreatDoorCards
import Derived.Test.YtiiljlmeililbaaGreatDoorBeGr45
import Derived.Test.YtiiljlmeililbaaGreatDoorBeRowsB
namespace Go.Proofs.YtiiljlmeililbaaGreatDoor
set_option linter.unusedVariables false
set_option maxRecDepth 100000
open Go.ChangeMaps (open_string shut_string)
open Go.ChangeShapes Go.WideShapes Go.ChangeAt Go.RowKit
theorem treeEmpties_lifted (os : Os) (started : os.Started) (H : Type) (enc : TypeId × Value->H) :
   ReturnsInHanded {} Tryz.checked os 5 .any (fun w args => (Rows.treeEmptiesSpec.pre enc Tryz.prog Tryz.f5 Rows.treeEmptiesRow.domain false w args/\laidMetH Tryz.prog Rows.treeEmptiesRow.laid w)/\sizedMet enc Tryz.prog Tryz.f5 (OpenSpec.ofChange Rows.treeEmptiesSpec) false w args)
     (Rows.treeEmptiesSpec.post enc Tryz.prog Tryz.f5 false true false false):=by
 refine handed_and_shaped (C:=Tryz.checked) (X:=fun w _ => laidMetH Tryz.prog Rows.treeEmptiesRow.laid w) (fun _ _ _ hh h => h.of_heap hh) seat_own started (by kernel_rfl) Tryz.func5
   (ChangeSpec.witness_shaped (enc:=enc) (C:=Tryz.checked) (os:=os) (X:=fun w _ => laidMetH Tryz.prog Rows.treeEmptiesRow.laid w) false (World.laidAll Tryz.prog os Rows.treeEmptiesRow.laid) #[.slice none 0 0,.int .u8 0] 8 (World.laidAll_os _ _ _)
     (World.shaped_of_ZipB (by kernel_rfl) (by kernel_rfl)) (by kernel_rfl) (by kernel_rfl) (by kernel_rfl)
     (by rw [MakeChecks.laidMetH_plain _ _ _ (by kernel_rfl)]; exact laidMet_laidAll _ (by kernel_rfl) (by kernel_rfl))) ?_
 intro W base args ds gs before hval0 hW hcnd hsz0 hL hsh _
 have hval : ∀ (j : Nat) t v,Tryz.f5.params[j]?=some t->args[j]?=some v->Value.okWide Tryz.prog W .any base t v:=hval0
 have hW':=hW
 obtain ⟨p,q,hA0,hV,rfl,hfz,hnd⟩:=hW
 have hA : DataW.TrodAll enc Tryz.prog W 0 (fun _ => true) true Tryz.f5.params.toList args.toList ds p:=hA0
 have hsz1 : (DataW.weightsEach Tryz.prog (Tryz.f5.params.toList ++ Rows.treeEmptiesSpec.plain.varTypes Tryz.prog) (ds ++ gs)).all (·<=reachBytes)=true:=hsz0
 rw [Tryz.params5] at hA hval hsz1
 obtain ⟨v0,vs0,d0,ds0,p0,q0,hargs,rfl,rfl,h0,r0⟩:=trodAll_cons hA
 obtain ⟨v1,vs1,d1,ds1,p1,q1,rfl,rfl,rfl,h1,r1⟩:=trodAll_cons r0
 obtain ⟨rfl,rfl,rfl⟩:=trodAll_nil r1
 obtain rfl : args=#[v0,v1]:=by cases args; simp_all
 obtain ⟨rfl,rfl⟩:=trodVars_none hV
 obtain ⟨a0,len0,cap0,rfl⟩:=okWide_slice Tryz.underlying22 (hval 0 22 v0 rfl rfl)
 have k0:=h0
 have lt0 : ∀ x ∈ p0,x.block < W.heap.size:=by obtain ⟨m,hm⟩:=k0; exact DataW.trod_lt m _ _ _ hm
 obtain ⟨ks0,b0,m0⟩ : ∃ ks,RowsB W a0 len0 cap0 ks/\cap0<=maxLen:=by
   obtain ⟨fuel,hf⟩:=h0
   rcases Go.Deep.open_int_rows Tryz.underlying22 Tryz.underlying37 Tryz.underlying5 (by kernel_rfl) (by kernel_rfl) hf with ⟨hcs,_⟩ | ⟨a,l,c,AA,LL,CC,Z,hcs,_,hl,hm,_,hr⟩
   · simp [Value.cells] at hcs
     obtain ⟨rfl,rfl,rfl⟩:=hcs
     exact ⟨[],rowsB_nil W,Nat.zero_le _⟩
   · simp [Value.cells] at hcs
     obtain ⟨rfl,rfl,rfl⟩:=hcs
     obtain ⟨ks,hks⟩:=rowsB_of W a _ _ AA LL CC Z hl hr
     exact ⟨ks,hks,hm⟩
 obtain ⟨x1,rfl,rfl,rfl,wx1⟩:=open_int Tryz.underlying5 (hval 1 5 v1 rfl rfl) h1
 clear hA0 hval0
 refine (treeEmpties_true W _ _ _ _ b0 m0 x1 wx1).mono fun e W' ⟨he,bel⟩ => ?_
 subst he
 exact ⟨_,rfl,_,_,_,[],_,[],hW',trodAll_mk1 (shut_bool Tryz.underlying4 _),(trodAll_cons_mk (Below.trod seat_laidOut (by kernel_rfl) (of_decide_eq_true (by kernel_rfl)) k0 bel lt0) (trodAll_cons_mk (shut_int Tryz.underlying5 wx1) trodAll_mk0)),rfl,bel.frame _,fun h => by cases h⟩
theorem treeEmpties_holds : Rows.TreeEmptiesSaid :=
 OpenClaim.holds_of_wide 5 Tryz.f5 rfl rfl rfl rfl rfl rfl rfl ⟨rfl,rfl,rfl,rfl,rfl⟩ rfl rfl rfl rfl rfl (by kernel_rfl) Tryz.func5 (by kernel_rfl)
   (of_decide_eq_true (by kernel_rfl)) (by unfold Func.isWrapper; first | (rw [if_pos (by decide +kernel)]; kernel_rfl) | (rw [if_neg (by decide +kernel)]; exact ⟨rfl,rfl⟩))
   (fun os started H enc _ => treeEmpties_lifted os started H enc)
theorem treeEmpties_card : Rows.TreeEmptiesCardSaid :=
 Claim7.holds_tied_plain_at .later [] [.data,.pinned] true Rows.treeEmptiesCard.stood.harness false treeEmpties_holds (fun _ h => by cases h) (by kernel_rfl) (fun _ h => by cases h) treeEmpties_row_tie rfl ⟨rfl,rfl⟩ (by kernel_rfl) rfl
   (fun f fn hf hfn => by
     obtain rfl : f = 5 := Option.some.inj ((show Tryz.prog.funcNamed "inquest/inquestlaw19.TreeEmpties" = some 5 by kernel_rfl).symm.trans hf) |>.symm
     obtain rfl : fn=Tryz.f5:=(Option.some.inj (Tryz.func5.symm.trans hfn)).symm
     exact ⟨by kernel_rfl,fun j t ht => by
       rw [Tryz.params5] at ht
       have hm : t ∈ [22,5]:=by
         have:=Array.mem_of_getElem? ht
         simp at this
         simp; omega
       have hall : ([22,5].all fun u => !Tryz.prog.wantsStandIn u)=true:=by kernel_rfl
       exact (show Tryz.prog.wantsStandIn t=false by simpa using List.all_eq_true.1 hall t hm)⟩)
   (by kernel_rfl)
#print axioms treeEmpties_card
end Go.Proofs.YtiiljlmeililbaaGreatDoor
