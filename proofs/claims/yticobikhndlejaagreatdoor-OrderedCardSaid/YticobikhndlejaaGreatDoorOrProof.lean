/-
  PROVED: elevator/elevatorkeep.Ordered returns true, whatever its arguments are, and turns nothing that was there.
  Conditions: none but the row's own (errors.errorType holds the handle of the type 'error', which the card ties to the program's text).
-/
import Derived.Test.YticobikhndlejaaGreatDoorOrS
import Derived.Test.YticobikhndlejaaGreatDoorOrV
import Derived.Test.YticobikhndlejaaGreatDoorCards
import Derived.Test.YticobikhndlejaaGreatDoorTie
namespace Go.Proofs.YticobikhndlejaaGreatDoor
section
open Go.ChangeShapes Go.WideShapes Go.RowKit
open Go.ChangeMaps (open_string shut_string)
set_option maxRecDepth 100000
theorem ordered_lifted(os:Os)(started:os.Started)(H:Type)(enc:TypeId×Value->H):
  ReturnsInLeavingWide {} Tryz.checked os 8 .any (fun w args=>(Rows.orderedSpec.pre enc Tryz.prog Tryz.f8 [] false w args/\laidMetH Tryz.prog laidL w)/\sizedMet enc Tryz.prog Tryz.f8 (OpenSpec.ofChange Rows.orderedSpec) false w args)
   (Rows.orderedSpec.post enc Tryz.prog Tryz.f8 false true false false):=by
 refine leaving_of_change_and (C:=Tryz.checked) (X:=fun w _=>laidMetH Tryz.prog laidL w) (fun _ _ _ hh h=>h.of_heap hh) Tryz.own started Tryz.func8
  (ChangeSpec.witness_at (enc:=enc) (C:=Tryz.checked) (os:=os) (X:=fun w _=>laidMetH Tryz.prog laidL w) false (laidWorld os) #[.int .i64 0,.string ByteArray.empty] 8 rfl (by kernel_rfl) (by kernel_rfl) (by kernel_rfl) (by kernel_rfl) (by kernel_rfl) (laidWorld_met os _)) ?_
 intro W base args ds gs before hval0 hW _ hL
 have hval:∀ (j:Nat) t v,Tryz.f8.params[j]?=some t->args[j]?=some v->Value.okWide Tryz.prog W .any base t v:=hval0
 have hW':=hW
 obtain⟨p,q,hA0,hV0,rfl,hfz,hnd⟩:=hW
 have hA:DataW.TrodAll enc Tryz.prog W 0 (fun _=>true) true Tryz.f8.params.toList args.toList ds p:=hA0
 have hV:DataW.TrodVars enc Tryz.prog W (fun _=>true) [] gs q:=hV0
 rw[Tryz.params8]at hA hval
 obtain⟨v0,v1,d0,d1,p0,p1,rfl,rfl,rfl,h0,h1⟩:=trodAll_two hA
 obtain⟨x0,rfl,rfl,rfl,wx0⟩:=open_int Tryz.underlying3 (hval 0 3 v0 rfl rfl) h0
 obtain⟨x1,rfl,rfl,rfl,wx1⟩:=open_string Tryz.underlying9 (hval 1 9 v1 rfl rfl) h1
 have hg:=handle_of_laid hL
 obtain⟨rfl,rfl⟩:=trodVars_none hV
 have e1:Rows.orderedSpec.fn H ([.lit (.int .i64 x0),.lit (.string x1.data.toList)] ++ [])={results:=[.lit (.bool true)],args:=[.lit (.int .i64 x0),.lit (.string x1.data.toList)]}:=by simp[Rows.orderedSpec]
 obtain⟨M,last,o,w',t',r1,r2,r3,r4⟩:=run_of (f:=8) ((gP_ne (by decide)).trans Tryz.func8) (by kernel_rfl) (by decide) (by kernel_rfl) #[.int .i64 x0,.string x1] W fun τ=>
  ordered_m x0 x1 (onT (layW W) τ (layW W).drawn) (((lay_sim W).cell _).symm.trans hg) (bounds_i64 wx0) wx1
 refine⟨M,last,o,w',t',r1,r2,r3,Conc.Good.mono r4 fun v hF=>?_⟩
 obtain⟨rfl,hl⟩:=hF
 refine⟨_,_,_,[],[],[],hW',?_,?_,?_,hl.frame _,fun h=>by cases h⟩
 ·rw[e1];exact trodAll_mk1 (shut_bool Tryz.underlying4 true)
 ·rw[e1];exact trodAll_mk2 (shut_int Tryz.underlying3 wx0) (shut_string Tryz.underlying9 wx1)
 ·rw[e1];rfl
theorem ordered_said:Rows.OrderedSaid:=
 OpenClaim.holds_of_wide_leaving 8 Tryz.f8 rfl rfl rfl rfl rfl rfl rfl ⟨rfl,rfl,rfl,rfl,rfl⟩ rfl rfl rfl rfl rfl (by kernel_rfl) Tryz.func8 (by kernel_rfl)
  (of_decide_eq_true (by kernel_rfl)) (by unfold Func.isWrapper;rw[if_neg (of_decide_eq_false (by kernel_rfl))];exact⟨rfl,rfl⟩)
  (fun os started H enc _=>ordered_lifted os started H enc)
theorem ordered_plain(f:FuncId)(fn:Func)(hf:Tryz.pinned.checked.prog.funcNamed "elevator/elevatorkeep.Ordered" =some f)(hfn:Tryz.pinned.checked.prog.funcs[f]?=some fn):
  true=Tryz.pinned.checked.prog.looks []/\∀ (j:Nat) t,fn.params[j]?=some t->Tryz.pinned.checked.prog.wantsStandIn t=false:=by
 obtain rfl:f=8:=Option.some.inj ((show Tryz.prog.funcNamed "elevator/elevatorkeep.Ordered" =some 8 by kernel_rfl).symm.trans hf) |>.symm
 obtain rfl:fn=Tryz.f8:=(Option.some.inj (Tryz.func8.symm.trans hfn)).symm
 refine⟨by kernel_rfl,fun j t ht=>?_⟩
 rw[Tryz.params8]at ht
 have hn:Tryz.pinned.checked.prog.wantsStandIn 3=false:=by kernel_rfl
 have hn2:Tryz.pinned.checked.prog.wantsStandIn 9=false:=by kernel_rfl
 match j,ht with
 | 0,ht=>simp at ht;subst ht;exact hn
 | 1,ht=>simp at ht;subst ht;exact hn2
 | j+2,ht=>simp at ht
theorem ordered_holds:Rows.OrderedCardSaid:=
 card_of .later _ _ _ _ _ ordered_said (by kernel_rfl) ordered_row_tie rfl ⟨rfl,rfl⟩ (by kernel_rfl) rfl ordered_plain (by kernel_rfl)
#print axioms ordered_holds
end
end Go.Proofs.YticobikhndlejaaGreatDoor
