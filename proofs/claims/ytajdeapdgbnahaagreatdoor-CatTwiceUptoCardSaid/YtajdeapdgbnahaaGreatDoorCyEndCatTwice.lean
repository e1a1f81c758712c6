/-
  Proved: CatTwice in its second form, for every input of bulk at most 1048576 (the library's listed tables as its text lays them) the law returns true and leaves its arguments as they were. No other condition.
-/
import Derived.Test.YtajdeapdgbnahaaGreatDoorTie
import Derived.Test.YtajdeapdgbnahaaGreatDoorCards
import Derived.Test.YtajdeapdgbnahaaGreatDoorCyTabTw
import Derived.Test.YtajdeapdgbnahaaGreatDoorCyTwRow
import Derived.Deep.DeepHandedRow
namespace Go.Proofs.YtajdeapdgbnahaaGreatDoor
set_option linter.unusedVariables false
set_option maxRecDepth 100000
open Go.ChangeShapes Go.WideShapes Go.ChangeAt Go.RowKit
theorem nV{H:Type}{enc:TypeId×Value->H}{C:Checked}{os:Os}{f:FuncId}{fn:Func}{s:OpenSpec}{conds:List PathCond}{apart:Bool}{laid:List (String×DataW Unit)}(modest:Bool)(w0:World)(args:Array Value)(hos:w0.os=os)(hsh:(w0.forCall (fun _ _=>0) ⟨#[],args,[]⟩).Shaped C.prog)
 (hok:Input.okWideB C.prog (w0.forCall (fun _ _=>0) ⟨#[],args,[]⟩) f ⟨#[],args,[]⟩=true)
 (hrow:s.preRow enc C.prog fn conds apart laid (w0.forCall (fun _ _=>0) ⟨#[],args,[]⟩).memory args):
 ∃(w:World) (tape:Tape) (i:Input),w.os=os/\(w.forCall tape i).Shaped C.prog/\i.vars=[]/\Input.okWide C.prog (w.forCall tape i) .any w.heap.size f i/\
  s.preRow enc C.prog fn conds apart laid (w.forCall tape i).memory i.args/\({ modest:=modest }:Assume).holds C.prog (lone (Frame.enter C.prog f i.args .normal) [] (w.forCall tape i)):=
 ⟨w0,fun _ _=>0,⟨#[],args,[]⟩,hos,hsh,(Input.okWide_of_okWideB (base:=0) hok).1,(Input.okWide_of_okWideB hok).2,hrow,by simp only[Assume.holds];exact⟨by simp,by simp,fun _=>Modest.zero,by simp,by simp⟩⟩
theorem xO(os:Os){H:Type}(enc:TypeId×Value->H):∃places,DataW.whole enc Tryz.prog (((World.laidAll Tryz.prog os Rows.catTwiceUptoRow.laid).forCall (fun _ _=>0) ⟨#[],#[.slice none 0 0,.int .u8 0],[]⟩).memory) Tryz.f4.params.toList Rows.catTwiceSpec.vars false #[Value.slice none 0 0,.int .u8 0].toList 8=some ([.nil,.lit (.int .u8 0)],[],places):=⟨[],by kernel_rfl⟩
theorem rf(os:Os)(started:os.Started)(H:Type)(enc:TypeId×Value->H)(F:Stop.Interp):ReturnsInHanded {} Tryz.checked os 4 .any ((Rows.OpenSpec.upto Rows.catTwiceSpec).preRow enc Tryz.prog Tryz.f4 Rows.catTwiceUptoRow.domain false Rows.catTwiceUptoRow.laid) (((Rows.OpenSpec.upto Rows.catTwiceSpec).at F).post enc Tryz.prog Tryz.f4 false true false false):=by
 obtain⟨places,hx⟩:=xO os enc;refine returnsInHanded_of_row (C:=Tryz.checked) (s:=Rows.OpenSpec.upto Rows.catTwiceSpec) Fj started (by kernel_rfl) Tryz.func4
  (nV (enc:=enc) (C:=Tryz.checked) false (World.laidAll Tryz.prog os Rows.catTwiceUptoRow.laid) #[.slice none 0 0,.int .u8 0] (World.laidAll_os _ _ _)
   (World.shaped_of_ZipB (by kernel_rfl) (by kernel_rfl)) (by kernel_rfl)
   (OpenSpec.preRow_of_cond 8 hx (by kernel_rfl) (fun k hk=>by cases hk;kernel_rfl) (by kernel_rfl) (laidMet_laidAll _ (by kernel_rfl) (by kernel_rfl)))) ?_
 intro W base args ds gs before hval0 hW hcnd hcond hsz0 hL hsh _;obtain⟨mm,hmm⟩:=Tryz.Fk.s1_3 W hsh;replace hmm:W.cell? ⟨2,0,none⟩=some (.int .i64 mm):=hmm;have hgg:2<W.heap.size:=kS hmm;have hval:∀(j:Nat) t v,Tryz.f4.params[j]?=some t->args[j]?=some v->Value.okWide Tryz.prog W .any base t v:=hval0;have hbulk:Rows.uptoBulkAll (ds++gs)<=1048576:=of_decide_eq_true (hcond _ rfl);have hW':=hW;obtain⟨p,q,hA0,hV,rfl,hfz,hnd⟩:=hW;have hA:DataW.TrodAll enc Tryz.prog W 0 (fun _=>true) true Tryz.f4.params.toList args.toList ds p:=hA0;rw[Tryz.params4]at hA hval;obtain⟨v0,vs0,d0,ds0,p0,q0,hargs,rfl,rfl,h0,r0⟩:=trodAll_cons hA;obtain⟨v1,vs1,d1,ds1,p1,q1,rfl,rfl,rfl,h1,r1⟩:=trodAll_cons r0;obtain⟨rfl,rfl,rfl⟩:=trodAll_nil r1;obtain rfl:args=#[v0,v1]:=by cases args;simp_all
 obtain⟨rfl,rfl⟩:=trodVars_none hV;have hb0:Rows.uptoBulk d0<=1048576:=Nat.le_trans (rW (by simp)) hbulk;obtain⟨a0,len0,cap0,rfl⟩:=okWide_slice Tryz.underlying22 (hval 0 22 v0 rfl rfl);have k0:=h0;have lt0:∀x∈p0,x.block<W.heap.size:=by obtain⟨m,hm⟩:=k0;exact DataW.trod_lt m _ _ _ hm
 obtain⟨fs,hF0,hcap⟩:∃fs,mw W a0 len0 cap0 fs/\cap0<=maxLen:=by obtain⟨fuel,hf⟩:=h0;exact Ao hf hb0
 obtain⟨x1,rfl,rfl,rfl,wx1⟩:=open_int Tryz.underlying5 (hval 1 5 v1 rfl rfl) h1;have wx2:=wx1;simp[Lit.wf,IntKind.min,IntKind.max,IntKind.signed,IntKind.bits]at wx2;obtain⟨T,rfl⟩:∃T:Nat,x1=(T:Int):=⟨x1.toNat,by omega⟩;have hT:T<256:=by omega
 have hU:mc W:=Fl Rows.catTwiceUptoRow.laid (by kernel_rfl) hL (.tail _ (.head _)) (.head _);clear hA0 hval0 wx2;refine(tW W a0 len0 cap0 T fs hF0 hcap hT hU ⟨hgg,mm,hmm⟩).mono fun e W' ⟨he,dX⟩=>?_;subst he;exact⟨_,rfl,_,_,_,[],_,[],hW',trodAll_mk1 (shut_bool Tryz.underlying4 _),(trodAll_cons_mk (Below.trod vR (by kernel_rfl) (of_decide_eq_true (by kernel_rfl)) k0 dX lt0) (trodAll_cons_mk (shut_int Tryz.underlying5 wx1) trodAll_mk0)),rfl,dX.frame _,fun h=>by cases h⟩
theorem catTwice_holds:Rows.CatTwiceUptoSaid:=
 OpenClaim.holds_of_cond 4 Tryz.f4 rfl rfl rfl rfl rfl rfl rfl ⟨rfl,rfl,rfl,rfl,rfl⟩ rfl rfl rfl rfl rfl (by kernel_rfl) Tryz.func4 (by kernel_rfl)
  (of_decide_eq_true (by kernel_rfl)) (by unfold Func.isWrapper;first|(rw[if_pos (by decide+kernel)];kernel_rfl)|(rw[if_neg (by decide+kernel)];exact⟨rfl,rfl⟩))
  (fun os started H enc _ F=>by rw[OpenClaim.pre_eq_preRow];exact rf os started H enc F)
theorem catTwiceUpto_card:Rows.CatTwiceUptoCardSaid:=
 Claim7.holds_tied_plain_at .later [] [.data,.pinned] true Rows.catTwiceUptoCard.stood.harness false catTwice_holds (fun _ h=>by cases h) (by kernel_rfl) (fun _ h=>by cases h) catTwiceUpto_row_tie rfl ⟨rfl,rfl⟩ (by kernel_rfl) rfl
  (fun f fn hf hfn=>by
   obtain rfl:f=4:=Option.some.inj ((show Tryz.prog.funcNamed "inquest/inquestlaw21.CatTwice"=some 4 by kernel_rfl).symm.trans hf) |>.symm
   obtain rfl:fn=Tryz.f4:=(Option.some.inj (Tryz.func4.symm.trans hfn)).symm;exact⟨by kernel_rfl,fun j t ht=>by
    rw[Tryz.params4]at ht;have hm:t∈[22,5]:=by have:=Array.mem_of_getElem? ht;simp at this;simp;omega
    have hall:([22,5].all fun u=>!Tryz.prog.wantsStandIn u)=true:=by kernel_rfl
    exact(show Tryz.prog.wantsStandIn t=false by simpa using List.all_eq_true.1 hall t hm)⟩)
  (by kernel_rfl)
#print axioms catTwiceUpto_card
end Go.Proofs.YtajdeapdgbnahaaGreatDoor
