/-
  PROVED: elevator/elevatorlaw.All returns true, whatever its arguments are, and turns nothing that was there; goroutines that it began only leave when it has returned.
  Conditions: none but the row's own (errors.errorType holds the handle of the type 'error', which the card ties to the program's text).
-/
import Derived.Test.YticobikhndlejaaGreatDoorAlU
import Derived.Test.YticobikhndlejaaGreatDoorCards
import Derived.Test.YticobikhndlejaaGreatDoorTie
namespace Go.Proofs.YticobikhndlejaaGreatDoor
section
open Go.ChangeShapes Go.WideShapes Go.RowKit
open Go.ChangeMaps (open_string shut_string)
set_option maxRecDepth 100000
theorem Scr.lay{W:World}{bp:Option Addr}{ops:List OpR}(h:Scr W bp ops)(τ:Nat->Question->Nat):Scr (onT (layW W) τ (layW W).drawn) bp ops:=fun i o hi=>by
 have g:∀ a,(onT (layW W) τ (layW W).drawn).cell? a=W.cell? a:=fun a=>((lay_sim W).cell a).symm
 obtain⟨sb,so,e,h0,h1,h2,h3,h4⟩:=h i o hi
 exact⟨sb,so,e,(g _).trans h0,(g _).trans h1,(g _).trans h2,(g _).trans h3,(g _).trans h4⟩
theorem laidOut_l:laidOutB Tryz.prog=true:=by kernel_rfl
theorem all_lifted(os:Os)(started:os.Started)(H:Type)(enc:TypeId×Value->H):
  ReturnsInLeavingWide {} Tryz.checked os 4 .any (fun w args=>(Rows.allSpec.pre enc Tryz.prog Tryz.f4 [] false w args/\laidMetH Tryz.prog laidL w)/\sizedMet enc Tryz.prog Tryz.f4 (OpenSpec.ofChange Rows.allSpec) false w args)
   (Rows.allSpec.post enc Tryz.prog Tryz.f4 false true false false):=by
 refine leaving_of_change_and (C:=Tryz.checked) (X:=fun w _=>laidMetH Tryz.prog laidL w) (fun _ _ _ hh h=>h.of_heap hh) Tryz.own started Tryz.func4
  (ChangeSpec.witness_at (enc:=enc) (C:=Tryz.checked) (os:=os) (X:=fun w _=>laidMetH Tryz.prog laidL w) false (laidWorld os) #[.slice none 0 0] 8 rfl (by kernel_rfl) (by kernel_rfl) (by kernel_rfl) (by kernel_rfl) (by kernel_rfl) (laidWorld_met os _)) ?_
 intro W base args ds gs before hval0 hW hwt hL
 have hval:∀ (j:Nat) t v,Tryz.f4.params[j]?=some t->args[j]?=some v->Value.okWide Tryz.prog W .any base t v:=hval0
 have hW':=hW
 obtain⟨p,q,hA0,hV0,rfl,hfz,hnd⟩:=hW
 have hA:DataW.TrodAll enc Tryz.prog W 0 (fun _=>true) true Tryz.f4.params.toList args.toList ds p:=hA0
 have hV:DataW.TrodVars enc Tryz.prog W (fun _=>true) [] gs q:=hV0
 rw[Tryz.params4]at hA hval
 obtain⟨v0,d0,rfl,rfl,h0⟩:=trodAll_one hA
 have h0k:=h0
 have hlt:∀ x∈p,x.block<W.heap.size:=fun x hx=>by simpa using hW'.lt x (by simp[hx])
 obtain⟨bp,cap,ops,rfl,hs1,hs2,hs3⟩:=open_ops (hval 0 22 v0 rfl rfl) h0 (fun n hn=>of_decide_eq_true (List.all_eq_true.1 hwt n (by rw[Tryz.params4];exact List.mem_append_left _ hn)))
 have hg:=handle_of_laid hL
 obtain⟨rfl,rfl⟩:=trodVars_none hV
 have e1:Rows.allSpec.fn H ([d0] ++ [])={results:=[.lit (.bool true)],args:=[d0]}:=by simp[Rows.allSpec]
 obtain⟨M,last,o,w',t',r1,r2,r3,r4⟩:=run_of (f:=4) ((gP_ne (by decide)).trans Tryz.func4) (by kernel_rfl) (by decide) (by kernel_rfl) #[.slice bp ops.length cap] W fun τ=>
  all_m (onT (layW W) τ (layW W).drawn) (((lay_sim W).cell _).symm.trans hg) bp cap ops (hs1.lay τ) hs2 hs3
 refine⟨M,last,o,w',t',r1,r2,r3,Conc.Good.mono r4 fun v hF=>?_⟩
 obtain⟨rfl,hl⟩:=hF
 have hw:=hl.below
 refine⟨_,_,_,[],p,[],hW',?_,?_,?_,hl.frame _,fun h=>by cases h⟩
 ·rw[e1];exact trodAll_mk1 (shut_bool Tryz.underlying4 true)
 ·rw[e1];exact (trodAll_mk1 (Below.trod laidOut_l (by kernel_rfl) (of_decide_eq_true (by kernel_rfl)) h0k hw hlt)).of_heap (by rfl)
 ·rw[e1];rfl
theorem all_said:Rows.AllSaid:=
 OpenClaim.holds_of_wide_leaving 4 Tryz.f4 rfl rfl rfl rfl rfl rfl rfl ⟨rfl,rfl,rfl,rfl,rfl⟩ rfl rfl rfl rfl rfl (by kernel_rfl) Tryz.func4 (by kernel_rfl)
  (of_decide_eq_true (by kernel_rfl)) (by unfold Func.isWrapper;rw[if_neg (of_decide_eq_false (by kernel_rfl))];exact⟨rfl,rfl⟩)
  (fun os started H enc _=>all_lifted os started H enc)
theorem all_plain(f:FuncId)(fn:Func)(hf:Tryz.pinned.checked.prog.funcNamed "elevator/elevatorlaw.All" =some f)(hfn:Tryz.pinned.checked.prog.funcs[f]?=some fn):
  true=Tryz.pinned.checked.prog.looks []/\∀ (j:Nat) t,fn.params[j]?=some t->Tryz.pinned.checked.prog.wantsStandIn t=false:=by
 obtain rfl:f=4:=Option.some.inj ((show Tryz.prog.funcNamed "elevator/elevatorlaw.All" =some 4 by kernel_rfl).symm.trans hf) |>.symm
 obtain rfl:fn=Tryz.f4:=(Option.some.inj (Tryz.func4.symm.trans hfn)).symm
 refine⟨by kernel_rfl,fun j t ht=>?_⟩
 rw[Tryz.params4]at ht
 have hn:Tryz.pinned.checked.prog.wantsStandIn 22=false:=by kernel_rfl
 match j,ht with
 | 0,ht=>simp at ht;subst ht;exact hn
 | j+1,ht=>simp at ht
theorem all_holds:Rows.AllCardSaid:=
 card_of .later _ _ _ _ _ all_said (by kernel_rfl) all_row_tie rfl ⟨rfl,rfl⟩ (by kernel_rfl) rfl all_plain (by kernel_rfl)
#print axioms all_holds
end
end Go.Proofs.YticobikhndlejaaGreatDoor
