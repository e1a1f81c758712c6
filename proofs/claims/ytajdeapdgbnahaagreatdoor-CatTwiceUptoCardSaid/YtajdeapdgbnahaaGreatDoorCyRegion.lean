/-
  A region whose order is drawn, by an invariant: each operation is shown once, whatever came up before it.
-/
import Derived.Orders
import Derived.Tactics
namespace Go.Proofs.YtajdeapdgbnahaaGreatDoor
set_option linter.unusedVariables false
set_option maxRecDepth 100000
open List Nat
section
variable {P:Program}{ops:Array Oper}{Q:Exit->Act->World->Prop}{md:Region.Mode}
def KO(ops:Array Oper):Bool:=(List.range ops.size).all λi=>((ops[i]?).map λo=>o.after.all λe=>decide (e.on<i)).getD false
theorem Cl{listed:Array Bool}(k:KO ops=true)(l:Region.ready md ops listed=[]):∀i,i<ops.size->listed.getD i true=true:=by
 intro i;induction i using Nat.strongRecOn with
 |_ i ih=>
  intro d
  cases hl:listed.getD i true with
  |true=>rfl
  |false=>
   have a:i∈Region.ready md ops listed:=by
    rw[Region.ready,mem_filter];refine⟨mem_range.2 d,?_⟩;have c:=all_eq_true.1 k i (mem_range.2 d);rw[Array.getElem?_eq_getElem d]at c⊢;simp only[Option.map_some,Option.getD_some]at c⊢;rw[hl];simp only[Bool.not_false,Bool.true_and];rw[Array.all_eq_true]at c⊢;intro j m;have n:=c j m;have o:ops[i].after[j].on<i:=by simpa using n
    have e:=ih _ o (by omega);have p:listed.getD ops[i].after[j].on false=true:=by
     rw[Array.getD_eq_getD_getElem?]at e⊢;cases f:listed[ops[i].after[j].on]? with
     |none=>
      have g:listed[i]?=none:=by rw[Array.getElem?_eq_none_iff]at f⊢;omega
      rw[Array.getD_eq_getD_getElem?,g]at hl
      cases hl
     |some b=>rw[f]at e;exact e
    rw[p];simp
   rw[l]at a
   cases a
theorem uy(j:Array Bool->Act->World->Prop)(p:KO ops=true)(step:∀listed i a w,listed.size=ops.size->j listed a w->i∈Region.ready md ops listed->wpOp P ops Q i (λo w'=>j (listed.setIfInBounds i true) o w') a w)
 (done:∀listed a w,listed.size=ops.size->j listed a w->(∀i,i<ops.size->listed.getD i true=true)->Q .normal a w):
 ∀(c:Nat) (listed:Array Bool) (a:Act) (w:World),listed.size=ops.size->listed.toList.count false<=c->j listed a w->wpAny P md ops Q c listed a w
 |0,listed,a,w,e,r,g=>by
  have f:∀i,listed.getD i true=true:=λi=>by
   rw[Array.getD_eq_getD_getElem?];cases hx:listed[i]? with
   |none=>rfl
   |some b=>
    cases b with
    |true=>rfl
    |false=>
     have:false∈listed.toList:=by rw[Array.mem_toList_iff];exact Array.mem_of_getElem? hx
     have:=count_pos_iff.2 this
     omega
  refine⟨?_,done listed a w e g λi _=>f i⟩
  rw[Region.ready,filter_eq_nil_iff]
  intro i _
  rw[f i];simp
 |c+1,listed,a,w,e,r,g=>by
  refine⟨λs=>done listed a w e g (Cl p s),λi q=>?_⟩
  have k:=(mem_filter.1 q)
  have l:i<ops.size:=mem_range.1 k.1
  have d:listed.getD i true=false:=by have:=k.2;simp only[Bool.and_eq_true,Bool.not_eq_true']at this;exact this.1
  refine wpOp_mono (λo w' t=>?_) (step listed i a w e g q)
  refine uy j p step done c _ o w' (by simpa using e) ?_ t
  have m:i<listed.toList.length:=by simpa[e]using l
  have n:listed.toList[i]=false:=by rw[Array.getD_eq_getD_getElem?,Array.getElem?_eq_getElem (by rw[e];exact l)]at d;simpa using d
  rw[Array.toList_setIfInBounds,count_set m,n]
  have:0<listed.toList.count false:=count_pos_iff.2 (n▸getElem_mem m)
  have u:(false==false)=true:=rfl
  have v:(true==false)=false:=rfl
  rw[if_pos u,if_neg (by rw[v];exact Bool.false_ne_true)]
  omega
def Km(K:Act->World->Prop)(Q:Exit->Act->World->Prop):Exit->Act->World->Prop
 |.normal,a,w=>K a w
 |e,a,w=>Q e a w
theorem dD{K:Act->World->Prop}{i:Nat}{o:Oper}{a:Act}{w:World}(b:ops[i]?=some o)(h:wpList P ops (Km K Q) [o] a w):wpOp P ops Q i K a w:=by unfold wpOp;rw[b];exact h
end
end Go.Proofs.YtajdeapdgbnahaaGreatDoor
