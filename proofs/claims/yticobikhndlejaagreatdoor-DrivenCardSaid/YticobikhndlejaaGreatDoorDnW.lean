/- Part 23 of the proof (see the last part). -/
import Derived.Test.YticobikhndlejaaGreatDoorDnV
import Derived.SevenTiedAt
import Derived.Conc.LeavingOf
namespace Go.Proofs.YticobikhndlejaaGreatDoor
section
open Go Go.Extern Go.Extern.Rtype
theorem ext_find{fn:Func}{n:String}{e:Array Value->Sem Value}(hn:fn.name=n)(ho:fn.origin= "")(h1:allGenericRows.lookup n=none)(h2:allTypedRows.lookup n=none)(h3:allRows.lookup n=some e)(h4:allNextRows.lookup n=none)(h5:allNextRows.lookup "" =none):findNext fn=none/\Extern.find fn=some e:=by
 unfold findNext Extern.find
 dsimp only
 rw[hn,ho,h1,h2,h3,h4,h5]
 exact⟨rfl,rfl⟩
theorem ext_seen:(gP.funcs.toList.all fun fn=>(!(fn.body.isNone && gE.contains fn.name) || fn.origin == "") && !(fn.name == "runtime.NumGoroutine"))=true:=by kernel_rfl
theorem ext_row{fn:Func}{n:String}{e:Array Value->Sem Value}(hn:fn.name=n)(ho:fn.origin= "")(hr:allGenericRows.lookup n=none/\allTypedRows.lookup n=none/\allRows.lookup n=some e/\allNextRows.lookup n=none/\allNextRows.lookup "" =none)
  (ht:∀ F args,Tm (ofF gP F) (maskF gP gE) (clL gP gE) (e args) fun _=>True):
  findNext fn=none/\∃ e,Extern.find fn=some e/\∀ F args,Tm (ofF gP F) (maskF gP gE) (clL gP gE) (e args) fun _=>True:=
 have h:=ext_find hn ho hr.1 hr.2.1 hr.2.2.1 hr.2.2.2.1 hr.2.2.2.2
 ⟨h.1,e,h.2,ht⟩
theorem gExt:Ext gP gE:=by
 have hs:∀ (f:FuncId) (fn:Func),gP.funcs[f]?=some fn->(fn.body=none->gE.contains fn.name=true->fn.origin= "")/\(fn.name == "runtime.NumGoroutine")=false:=fun f fn h=>by
  have h1:=List.all_eq_true.1 ext_seen fn (Array.mem_toList_iff.2 (Array.mem_of_getElem? h))
  simp only[Bool.and_eq_true,Bool.or_eq_true,Bool.not_eq_true',beq_iff_eq]at h1
  refine⟨fun hb he=>?_,h1.2⟩
  rcases h1.1 with h2 | h2
  ·rw[hb,he]at h2;cases h2
  ·exact h2
 refine⟨fun f fn h=>(hs f fn h).2,fun f fn h hb he=>?_⟩
 have ho:=(hs f fn h).1 hb he
 have hm:fn.name∈gE:=List.contains_iff_mem.1 he
 simp only[gE,List.mem_cons,List.not_mem_nil,or_false]at hm
 rcases hm with hn | hn | hn | hn | hn | hn | hn | hn | hn | hn | hn
 ·exact ext_row (e:=ReflectliteType.typeOf) hn ho (by refine⟨?_,?_,?_,?_,?_⟩ <;> kernel_rfl) fun F a=>tm_typeOf a
 ·exact ext_row (e:=fun args=>ReflectliteValue.unpack (args.getD 0 (.tuple #[]))) hn ho (by refine⟨?_,?_,?_,?_,?_⟩ <;> kernel_rfl) fun F a=>TmC.out
 ·exact ext_row (e:=ReflectliteValue.methodAny (ReflectliteValue.valueError "reflectlite.Value.Type" 0) fun t _ _ _=>ReflectliteType.toType t) hn ho (by refine⟨?_,?_,?_,?_,?_⟩ <;> kernel_rfl) fun F a=>tm_vmethodAny TmC.out (fun _ _ _ _=>TmC.out) a
 ·exact ext_row (e:=ReflectliteValue.method (ReflectliteValue.valueError "reflectlite.Value.IsNil" 0) ReflectliteValue.isNil) hn ho (by refine⟨?_,?_,?_,?_,?_⟩ <;> kernel_rfl) fun F a=>tm_vmethod TmC.out (fun _ _ _ _=>TmC.out) a
 ·exact ext_row (e:=ReflectliteValue.method (ReflectliteValue.valueError "reflectlite.Value.Elem" 0) ReflectliteValue.elem) hn ho (by refine⟨?_,?_,?_,?_,?_⟩ <;> kernel_rfl) fun F a=>tm_vmethod TmC.out (fun _ _ _ _=>TmC.out) a
 ·exact ext_row (e:=ReflectliteValue.set) hn ho (by refine⟨?_,?_,?_,?_,?_⟩ <;> kernel_rfl) fun F a=>tm_vset a
 ·exact ext_row (e:=ReflectliteType.abiMethod fun t=>do pure (.int .u8 (<-Rtype.kind t))) hn ho (by refine⟨?_,?_,?_,?_,?_⟩ <;> kernel_rfl) fun F a=>tm_abiMethod (fun _=>Tm.bind (Q:=fun _=>True) TmC.out fun _ _=>tm_pure trivial) a
 ·exact ext_row (e:=ReflectliteType.relation "AssignableTo" ReflectliteType.assignableTo) hn ho (by refine⟨?_,?_,?_,?_,?_⟩ <;> kernel_rfl) fun F a=>tm_relation (fun _ _=>TmC.out) a
 ·exact ext_row (e:=ReflectliteType.method fun t=>do noPackHeld "Comparable" t;pure (.bool (<-typeInfo t).comparable)) hn ho (by refine⟨?_,?_,?_,?_,?_⟩ <;> kernel_rfl) fun F a=>tm_rmethod (fun _=>Tm.bind (Q:=fun _=>True) TmC.out fun _ _=>Tm.bind (Q:=fun _=>True) TmC.out fun _ _=>tm_pure trivial) a
 ·exact ext_row (e:=ReflectliteType.method ReflectliteType.elem) hn ho (by refine⟨?_,?_,?_,?_,?_⟩ <;> kernel_rfl) fun F a=>tm_rmethod (fun _=>TmC.out) a
 ·exact ext_row (e:=ReflectliteType.relation "Implements" ReflectliteType.implements_) hn ho (by refine⟨?_,?_,?_,?_,?_⟩ <;> kernel_rfl) fun F a=>tm_relation (fun _ _=>TmC.out) a
end
section
open Go Go.Conc Go.RowKit
def keepO:Obj->Bool
 | .cells .. | .map .. | .stringIter .. | .mapIter .. | .number ..=>true
 | _=>false
def layO(k:Nat):Obj->Obj
 | .view _ t=>.view ⟨k,0,none⟩ t
 | o=>if keepO o then o else .coro none
def layW(W:World):World:={W with heap:=W.heap.mapIdx layO}
def aside(W:World)(k:Nat):Prop:=∃ o,W.heap[k]?=some o/\keepO o=false
theorem layW_get(W:World)(k:Nat):(layW W).heap[k]?=W.heap[k]?.map (layO k):=by
 unfold layW
 rw[Array.getElem?_mapIdx]
theorem layW_size(W:World):(layW W).heap.size=W.heap.size:=by
 unfold layW
 simp
theorem layO_keep{k:Nat}{o:Obj}(h:keepO o=true):layO k o=o:=by
 cases o <;> first | rfl | (simp[keepO]at h)
theorem lay_sim(W:World):Sim (aside W) (layW W) W:=by
 refine⟨rfl,(layW_size W).symm,fun k hk=>?_,fun k ⟨o,ho,hko⟩=>?_⟩
 ·rw[layW_get]
  cases ho:W.heap[k]? with
  | none=>rfl
  | some o=>
    have:keepO o=true:=by
     cases h:keepO o with
     | true=>rfl
     | false=>exact absurd ⟨o,ho,h⟩ hk
    rw[Option.map_some,layO_keep this]
 ·cases o <;> first
   | (simp[keepO]at hko;done)
   | exact .inr ⟨_,_,by rw[layW_get,ho];rfl,ho⟩
   | exact .inl ⟨.coro none,_,by rw[layW_get,ho];rfl,ho,.inl ⟨rfl,trivial⟩⟩
theorem lay_clean{cl:Loop->Prop}(W:World):CleanH cl (layW W):=fun k o ho=>by
 rw[layW_get,Option.map_eq_some_iff]at ho
 obtain⟨x,_,rfl⟩:=ho
 cases x <;> first
  | exact .inl trivial
  | exact .inr ⟨_,rfl⟩
structure Lies(W w':World):Prop where
 os:w'.os=W.os
 output:w'.output=W.output
 size:W.heap.size<=w'.heap.size
 block:∀ k,k<W.heap.size->w'.heap[k]?=W.heap[k]?
theorem ring_start(R:Program)(a:Goroutine)(W:World)(B:Nat):Ring R (fun _=>True) (fun _=>False) B (Mm fun _=>none) (fun _=>none) 0 #[] #[a] W (fun _=>0):=by
 have e:(Mm fun _=>none)=fun g=>g=0:=by
  funext i
  simp[Mm]
 rw[e]
 exact ring_begin (fun _ z=>z.elim) (leavers_one _ _) (past_nil.mono (Nat.zero_le _)) trivial
theorem run_of{f:FuncId}{fn:Func}(hf:gP.funcs[f]?=some fn)(hk:okFunc gP gE fn=true)(hfD:f≠dD)(hini:Tryz.prog.inits.idxOf? f=none)(args:Array Value)(W:World)
  (hC:∀ τ,Calls Tryx.prog f args (onT (layW W) τ (layW W).drawn) fun e w=>e=.returned (.bool true)/\Below (layW W).heap.size (onT (layW W) τ (layW W).drawn) w):
  ∃ M last o w' t',runNT Tryz.prog (M+1) (solo (G (Frame.enter Tryz.prog f args .normal) []) W) #[]=(.ended o w',t')/\
    runN Tryz.prog M (solo (G (Frame.enter Tryz.prog f args .normal) []) W)=.next last/\step Tryz.prog last=.ended o w'/\Conc.Good Tryz.prog (fun v w'=>v=.bool true/\Lies W w') last o w' t':=by
 have hI:Inev gP gE f (fun v w=>v=.bool true/\Lies (layW W) w) (Frame.enter gP f args .normal) [] (layW W):=by
  refine inevitable (R:= "fmt's door") gExt alike (by kernel_rfl) (by kernel_rfl) hf hk (lay_clean W) fun τ _=>?_
  rw[Tryx.mask]
  exact (hC τ).mono fun e w ⟨h1,h2⟩=>⟨_,h1,rfl,h2.os,h2.output,h2.size,h2.block⟩
 have hen:Frame.enter gP f args .normal=Frame.enter Tryz.prog f args .normal:=by
  unfold Frame.enter
  rw[gP_ne hfD]
 have hstart:Co Tryz.prog (fun _=>none) (aside W) 1 (Frame.enter gP f args .normal) [] (layW W) W (solo (G (Frame.enter Tryz.prog f args .normal) []) W) #[]:=
  ⟨⟨#[mkG (Frame.enter gP f args .normal) []],none,fun _=>0,0,by rw[hen];rfl,rfl,rfl,ring_start _ _ _ _⟩,lay_sim W,(fun i s c e=>by cases e),rfl,fun _ _=>rfl⟩
 obtain⟨fr',u',J',n',W',m',T',hAt,hfn,⟨N,hrun⟩,hCo,hJ,hKp⟩:=whole gExt alike (drive_fw gExt) hfD hI (by simp[Bas,Frame.enter]) _ _ _ _ _ _ hstart
 obtain⟨hok,hcl,hm,hd,fn',τ,v,hfn',hres,rfl,hlies⟩:=hAt
 obtain⟨gs,sl,q,B,rfl,hsz,hg,hR⟩:=hCo.ex
 obtain⟨L,Pp⟩:=ring_end hR (.inr rfl) (fun _ _=>rfl)
 have hreal:Tryz.prog.funcs[fr'.fn]?=some fn':=by
  rw[<-hfn',hfn]
  exact (gP_ne hfD).symm
 have hend:∀ d,∃ es,stepG Tryz.prog true (mkG fr' []) (W'.at d)=.ended (.done (.bool true)) (W'.at d) es/\∀ e∈es,EvOk W'.heap.size e:=fun d=>by
  have s3:=TameS.sound (X:=ofF gP Tryz.prog.funcs) (own:=False) (.inr ⟨rfl,id⟩) (tm_results (P:=gP) (F:=Tryz.prog.funcs) (E:=gE) fn' fr'.tmps fun _=>False) (onT u' τ u'.drawn) hcl fun k h=>h.elim
  rw[hres]at s3
  obtain⟨n,hn,hmm⟩:=(s3.2.2.resolve_left fun h=>h.2).out
  have hn0:n=0:=by
   have:(onT u' τ u'.drawn).drawn=(onT u' τ u'.drawn).drawn+n:=hn
   omega
  subst hn0
  obtain⟨W1,es1,e,hS1,ho,hu,hJk,hz,hev⟩:=hmm J' W' W'.tape d #[] (hCo.sim.of_heap rfl rfl rfl rfl) fun i hi=>by omega
  have hW1:onT W1 W'.tape (d+0)=W'.at d:=by
   refine (world_eq (u1:=W') ⟨ho,?_,fun k _=>?_,fun k h=>h.elim⟩ hu).trans rfl
   ·rw[hS1.size,hCo.sim.size];rfl
   ·by_cases hk:J' k
    ·exact hJk k hk
    ·exact (hS1.same k hk).trans (hCo.sim.same k hk).symm
  rw[hW1]at e
  have e:(results fn' fr'.tmps).runT Tryz.prog (W'.at d) #[]=(.ok (.bool true) (W'.at d),#[] ++ es1):=e
  have hmr:fr'.mode≠.run:=by rw[hm];simp
  have hst:stepG Tryz.prog true (mkG fr' []) (W'.at d)=unwind Tryz.prog true fr' [] none (W'.at d):=unwind_stp (frs:=[]) hmr Tryz.prog [] (W'.at d)
  have hsz1:W1.heap.size=W'.heap.size:=by rw[hS1.size,hCo.sim.size];rfl
  refine⟨seen Tryz.prog fr'.fn (#[] ++ es1) ++ #[],?_,fun x hx=>?_⟩
  ·rw[hst,unwind]
   simp only[hd,hm,hreal,e,doReturn,hok.kind]
   rw[hfn,hini]
   rfl
  ·have:=mem_seen (by simpa using hx)
   rw[<-hsz1]
   exact hev x (by simpa using this)
 have hlies':∀ d,Lies W (W'.at d):=fun d=>by
  refine⟨hKp.os,hKp.output,?_,fun k hk=>?_⟩
  ·have:=hlies.size
   rw[layW_size]at this
   show W.heap.size<=W'.heap.size
   rw[hCo.sim.size]
   exact this
  ·show W'.heap[k]?=W.heap[k]?
   by_cases ha:aside W k
   ·exact hKp.block k ha
   ·have h1:u'.heap[k]?=W.heap[k]?:=by
     have h1:=hlies.block k (by rw[layW_size];exact hk)
     exact (show u'.heap[k]?=(layW W).heap[k]? from h1).trans ((lay_sim W).same k ha).symm
    obtain⟨o,ho⟩:∃ o,W.heap[k]?=some o:=⟨_,Array.getElem?_eq_getElem hk⟩
    have hko:keepO o=true:=by
     cases h:keepO o with
     | true=>rfl
     | false=>exact absurd ⟨o,ho,h⟩ ha
    rcases hCo.sim.at k with h2 |⟨z,x,h2,_,h3⟩ |⟨t,a,h2,_⟩
    ·exact h2.trans h1
    ·rw[h1,ho]at h2
     obtain rfl:=Option.some.inj h2
     rcases h3 with ⟨rfl,_⟩ |⟨rfl,_⟩ <;> cases hko
    ·rw[h1,ho]at h2
     obtain rfl:=Option.some.inj h2
     cases hko
 obtain⟨M8,last,o,w',t',e1,e2,e3,e4⟩:=beside_ends (P:=Tryz.prog) (Shun:=fun _=>False) (B:=max B W'.heap.size) (D:=fun _ _ _=>False) (Post:=fun v w'=>v=.bool true/\Lies W w') (sl:=sl) (n:=0) (w:=W') (fun _ _ _ h=>h.elim) hg L (Pp.mono (Nat.le_max_left _ _))
  (fun w1 hw1=>by
    obtain⟨d,rfl⟩:=hw1
    obtain⟨es,h1,h2⟩:=hend d
    refine⟨rfl,_,es,h1,fun e he=>?_,rfl,hlies' d⟩
    have:=evHd_of (h2 e he) (Nat.le_max_right B _)
    exact⟨fun x _ h=>h.elim,this.2.1,this.2.2.1,this.2.2.2⟩)
 refine⟨N+M8,last,o,w',t',?_,?_,e3,e4⟩
 ·rw[Nat.add_assoc,runNT_add]
  have hrun:runNT Tryz.prog N (solo (G (Frame.enter Tryz.prog f args .normal) []) W) #[]=_:=hrun
  rw[hrun]
  exact e1
 ·have hrun:runNT Tryz.prog N (solo (G (Frame.enter Tryz.prog f args .normal) []) W) #[]=_:=hrun
  rw[runN_add,<-runNT_fst Tryz.prog _ _ #[],hrun]
  exact e2
#print axioms run_of
end
section
open Go.ChangeShapes Go.WideShapes Go.RowKit
theorem leaving_of_change_and{H:Type}{enc:TypeId×Value->H}{a:Assume}{C:Checked}{os:Os}{f:FuncId}{fn:Func}{s:ChangeSpec}{conds:List PathCond}{apart fresh handsOn again:Bool}{X:World->Array Value->Prop}
  (hX:∀ (w w':World) (args:Array Value),w.heap=w'.heap->X w args->X w' args)
  (own:ownKnob C.prog.godebug=none) (started:os.Started) (hfn:C.prog.funcs[f]?=some fn)
  (witness:∃ (w:World) (tape:Tape) (i:Input),w.os=os/\(w.forCall tape i).Shaped C.prog/\i.vars=[]/\Input.okWide C.prog (w.forCall tape i) .any w.heap.size f i/\
    ((s.pre enc C.prog fn conds apart (w.forCall tape i).memory i.args/\X (w.forCall tape i).memory i.args)/\sizedMet enc C.prog fn (OpenSpec.ofChange s) apart (w.forCall tape i).memory i.args)/\a.holds C.prog (lone (Frame.enter C.prog f i.args .normal) [] (w.forCall tape i)))
  (runs:∀ (W:World) (base:Nat) (args:Array Value) (ds gs:List (DataW H)) (before:List MemPlace),
    (∀ (j:Nat) t v,fn.params[j]?=some t->args[j]?=some v->Value.okWide C.prog W .any base t v)->
    DataW.Whole enc C.prog fn.params.toList s.vars apart W args.toList ds gs before->
    (DataW.weightsEach C.prog (fn.params.toList ++ s.plain.varTypes C.prog) (ds ++ gs)).all (·<=reachBytes)=true->X W args->
    ∃ M last o w' t',runNT C.prog (M+1) (Conc.solo (Conc.G (Frame.enter C.prog f args .normal) []) W) #[]=(.ended o w',t')/\runN C.prog M (Conc.solo (Conc.G (Frame.enter C.prog f args .normal) []) W)=.next last/\
      step C.prog last=.ended o w'/\Conc.Good C.prog (fun v W'=>s.post enc C.prog fn apart fresh handsOn again W args v W') last o w' t'):
  ReturnsInLeavingWide a C os f .any (fun w args=>(s.pre enc C.prog fn conds apart w args/\X w args)/\sizedMet enc C.prog fn (OpenSpec.ofChange s) apart w args) (s.post enc C.prog fn apart fresh handsOn again):=by
 refine returnsInLeavingWide_of_good own started witness ?_
 intro w tape i _ _ _ hok hpre hholds
 obtain⟨_,_,_,fn',hfn',_,_,_,_,hval⟩:=hok
 have e:fn'=fn:=Option.some.inj (hfn'.symm.trans hfn)
 subst e
 obtain⟨⟨⟨ds,gs,before,hw,hc⟩,hx⟩,hz⟩:=hpre
 have hw':=DataW.Whole.of_heap (w':=w.forCall tape i) (by rfl) hw
 obtain⟨M,last,o,w',t',h1,h2,h3,h4⟩:=runs (w.forCall tape i) w.heap.size i.args ds gs before hval hw' (hz.weights hw) (hX _ _ _ (by rfl) hx)
 exact⟨M,last,o,w',t',h1,h2,h3,Conc.Good.mono h4 fun v hp=>ChangeSpec.post_blind hp⟩
theorem Lies.frame{W w':World}(h:Lies W w')(may:MemPlace->Prop):W.keptBut w' may:=by
 refine⟨h.os,h.output,fun i hi=>?_⟩
 rw[h.block i hi]
 split <;> simp_all
theorem card_of(Lk:Looks){p:Pinned}{s:OpenSpec}{c:OpenClaim}(kinds:List LaidKind)(tests:Bool)(har:Bool×String)(lk:Bool)(g:Bool)
  (hc:c.holds p s) (hw:c.wfByText s=true) (htie:c.laidByTextAt Lk p kinds tests)
  (hst:c.start=.entering) (hnb:c.noBlocks=false/\c.again=false) (hm:p.checked.prog.mainIs=some (har.1,har.2.toList)) (hn:(!har.1 && har.2.isEmpty && !lk)=false)
  (hl:∀ f fn,p.checked.prog.funcNamed c.func=some f->p.checked.prog.funcs[f]?=some fn->lk=p.checked.prog.looks []/\∀ (j:Nat) t,fn.params[j]?=some t->p.checked.prog.wantsStandIn t=false)
  (hg:g=c.goesBy p.checked.prog):
  Claim7.holds p (.plain s) {stood:={row:=c,standIns:=[],harness:=har,looks:=lk},kinds:=[],alts:=[],goes:=g,laidByText:=true,laidKinds:=kinds,laidTests:=tests,laidLooks:=Lk}:=by
 have h6:∀ r:OpenClaim,Claim7.isSixth {stood:={row:=r,standIns:=[],harness:=har,looks:=lk},kinds:=[]}=false:=fun r=>by simpa[Claim7.isSixth]using hn
 exact⟨Claim7.tied_new_at Lk kinds tests (Claim7.new_of_sixth hc har lk hst hnb hm (h6 c) hl) hw,(fun D hD=>by cases hD),htie,(fun h=>by cases h),hg⟩
end
end Go.Proofs.YticobikhndlejaaGreatDoor
