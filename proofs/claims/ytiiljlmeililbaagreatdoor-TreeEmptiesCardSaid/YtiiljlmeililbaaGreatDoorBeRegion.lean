/-
  A region whose order is drawn, by an invariant: each operation is shown once, whatever came up before it.
-/
import Derived.Orders
import Derived.Tactics
namespace Go.Proofs.YtiiljlmeililbaaGreatDoor
set_option linter.unusedVariables false
set_option maxRecDepth 100000
section
variable {P : Program} {ops : Array Oper} {Q : Exit->Act->World->Prop} {md : Region.Mode}
def Ahead (ops : Array Oper) : Bool:=(List.range ops.size).all fun i => ((ops[i]?).map fun o => o.after.all fun e => decide (e.on < i)).getD false
theorem ready_none {listed : Array Bool} (hw : Ahead ops=true) (hr : Region.ready md ops listed=[]) : ∀ i,i < ops.size->listed.getD i true=true:=by
 intro i
 induction i using Nat.strongRecOn with
 | _ i ih =>
   intro hi
   cases hl : listed.getD i true with
   | true => rfl
   | false =>
     have hmem : i ∈ Region.ready md ops listed:=by
       rw [Region.ready,List.mem_filter]
       refine ⟨List.mem_range.2 hi,?_⟩
       have h1:=List.all_eq_true.1 hw i (List.mem_range.2 hi)
       rw [Array.getElem?_eq_getElem hi] at h1 ⊢
       simp only [Option.map_some,Option.getD_some] at h1 ⊢
       rw [hl]
       simp only [Bool.not_false,Bool.true_and]
       rw [Array.all_eq_true] at h1 ⊢
       intro j hj
       have h2:=h1 j hj
       have h3 : ops[i].after[j].on < i:=by simpa using h2
       have h4:=ih _ h3 (by omega)
       have h5 : listed.getD ops[i].after[j].on false=true:=by
         rw [Array.getD_eq_getD_getElem?] at h4 ⊢
         cases hx : listed[ops[i].after[j].on]? with
         | none =>
           have hx' : listed[i]?=none:=by
             rw [Array.getElem?_eq_none_iff] at hx ⊢; omega
           rw [Array.getD_eq_getD_getElem?,hx'] at hl
           cases hl
         | some b => rw [hx] at h4; exact h4
       rw [h5]; simp
     rw [hr] at hmem
     cases hmem
theorem wpAny_inv (I : Array Bool->Act->World->Prop) (hw : Ahead ops=true)
   (step : ∀ listed i a w,listed.size=ops.size->I listed a w->i ∈ Region.ready md ops listed->wpOp P ops Q i (fun a' w' => I (listed.setIfInBounds i true) a' w') a w)
   (done : ∀ listed a w,listed.size=ops.size->I listed a w->(∀ i,i < ops.size->listed.getD i true=true)->Q .normal a w) :
   ∀ (fuel : Nat) (listed : Array Bool) (a : Act) (w : World),listed.size=ops.size->listed.toList.count false<=fuel->I listed a w->wpAny P md ops Q fuel listed a w
 | 0, listed, a, w, hs, hc, hI => by
   have hall : ∀ i,listed.getD i true=true:=fun i => by
     rw [Array.getD_eq_getD_getElem?]
     cases hx : listed[i]? with
     | none => rfl
     | some b =>
       cases b with
       | true => rfl
       | false =>
         have : false ∈ listed.toList:=by
           rw [Array.mem_toList_iff]; exact Array.mem_of_getElem? hx
         have:=List.count_pos_iff.2 this
         omega
   refine ⟨?_,done listed a w hs hI fun i _ => hall i⟩
   rw [Region.ready,List.filter_eq_nil_iff]
   intro i _
   rw [hall i]; simp
 | fuel + 1, listed, a, w, hs, hc, hI => by
   refine ⟨fun hr => done listed a w hs hI (ready_none hw hr),fun i hi => ?_⟩
   have hi2:=(List.mem_filter.1 hi)
   have hlt : i < ops.size:=List.mem_range.1 hi2.1
   have hfalse : listed.getD i true=false:=by
     have:=hi2.2
     simp only [Bool.and_eq_true,Bool.not_eq_true'] at this
     exact this.1
   refine wpOp_mono (fun a' w' h' => ?_) (step listed i a w hs hI hi)
   refine wpAny_inv I hw step done fuel _ a' w' (by simpa using hs) ?_ h'
   have hls : i < listed.toList.length:=by simpa [hs] using hlt
   have hlf : listed.toList[i]=false:=by
     rw [Array.getD_eq_getD_getElem?,Array.getElem?_eq_getElem (by rw [hs]; exact hlt)] at hfalse
     simpa using hfalse
   rw [Array.toList_setIfInBounds,List.count_set hls,hlf]
   have : 0 < listed.toList.count false:=List.count_pos_iff.2 (hlf ▸ List.getElem_mem hls)
   have e1 : (false == false)=true:=rfl
   have e2 : (true == false)=false:=rfl
   rw [if_pos e1,if_neg (by rw [e2]; exact Bool.false_ne_true)]
   omega
def withK (K : Act->World->Prop) (Q : Exit->Act->World->Prop) : Exit->Act->World->Prop
 | .normal,a,w => K a w
 | e,a,w => Q e a w
theorem wpOp_list {K : Act->World->Prop} {i : Nat} {o : Oper} {a : Act} {w : World} (hi : ops[i]?=some o) (h : wpList P ops (withK K Q) [o] a w) : wpOp P ops Q i K a w:=by
 unfold wpOp
 rw [hi]
 exact h
end
end Go.Proofs.YtiiljlmeililbaaGreatDoor
