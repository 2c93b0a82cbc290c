/- Part 3 of the proof (see the last part). -/
import Derived.Test.YticobikhndlejaaGreatDoorOrB
import Derived.Calls
namespace Go.Proofs.YticobikhndlejaaGreatDoor
section
open Go
set_option maxHeartbeats 8000000
def ItemOk(P:Program):Item->Prop
 | .code c | .inLoop c | .inScope c=>okCode P c=true
 | .inRegion ops _=>∀ o∈ops.toList,okOp P o.op=true
 | .inBlock _ | .inRangeFunc _ | .endRangeFunc _ | .beginRound=>True
 | .call .. | .extern ..=>False
structure FrOk(P:Program)(E:List String)(fr:Frame):Prop where
 todo:∀ i∈fr.todo,ItemOk P i
 defs:∀ d∈fr.defers,∃ r,d={target:=.collected r,args:=#[]}
 kind:fr.kind=.normal
 fn:∃ fn,P.funcs[fr.fn]?=some fn/\okFunc P E fn=true
def mkG(fr:Frame)(cs:List Frame):Goroutine:={frame:=fr,callers:=cs,status:=.running,dying:=none}
abbrev Stp:=Program->List Frame->World->GStep
def stp(fr:Frame)(frs:List Frame):Stp:=fun X cs w=>stepG X true (mkG fr (frs ++ cs)) w
def CStep(ST:Stp)(X:Program)(u:World)(fr1:Frame)(frs1:List Frame)(u1:World):Prop:=
 ∃ n,u1.drawn=u.drawn+n/\∀ (cs:List Frame) (J:Nat->Prop) (W:World) (τ:Nat->Question->Nat) (d:Nat),Sim J u W->(∀ i,i<n->∀ q,τ (d+i) q=u.tape (u.drawn+i) q)->
   ∃ W1 es,ST X cs (onT W τ d)=.go (mkG fr1 (frs1 ++ cs)) (onT W1 τ (d+n)) es/\Sim J u1 W1/\W1.os=W.os/\W1.output=W.output/\(∀ k,J k->W1.heap[k]?=W.heap[k]?)/\W.heap.size<=W1.heap.size/\∀ e∈es,EvOk W1.heap.size e
def Lost(ST:Stp)(X:Program)(u:World):Prop:=∀ cs,∃ o w es,ST X cs u=.ended o w es
def Lasts(l l1:List Frame):Prop:=l1.getLast?.map (fun b=>(b.fn,b.roundOf))=l.getLast?.map fun b=>(b.fn,b.roundOf)
def RStep(P:Program)(F:Array Func)(D:FuncId)(ST:Stp)(u:World)(fr1:Frame)(frs1:List Frame)(u1:World):Prop:=
 CStep ST (ofF P F) u fr1 frs1 u1\/∃ args,fr1=Frame.enter P D args .normal/\CStep ST (ofF P F) u (Frame.enter (ofF P F) D args .normal) frs1 u1
def OneStep(P:Program)(F:Array Func)(E:List String)(D:FuncId)(ST:Stp)(l:List Frame)(u:World):Prop:=
 Lost ST (ofF P (maskF P E)) u\/∃ fr1 frs1 u1,Kpt (clL P E) u u1/\Lasts l (fr1 :: frs1)/\CStep ST (ofF P (maskF P E)) u fr1 frs1 u1/\
  ((∃ f args,fr1=Frame.enter (ofF P (maskF P E)) f args .normal/\∃ fn,P.funcs[f]?=some fn/\okFunc P E fn=false)\/(CStep ST P u fr1 frs1 u1/\FrOk P E fr1/\(∀ x∈frs1,FrOk P E x)/\RStep P F D ST u fr1 frs1 u1))
section
variable {α:Type} {P X:Program} {F:Array Func} {D:FuncId} {E:List String} {ST:Stp} {l:List Frame} {fr fr1:Frame} {frs frs1:List Frame} {u u1:World}
theorem mem_seen{p:Program}{fn:FuncId}{es:Array Event}{e:Event}(h:e∈seen p fn es):e∈es:=by
 unfold seen at h
 refine Array.foldl_induction (motive:=fun _ (x:Bool×Array Event)=>∀ e∈x.2,e∈es) ?_ ?_ e h
 ·intro e he
  simp at he
 ·intro i x hx e he
  dsimp only at he
  split at he
  ·exact hx e he
  ·dsimp only at he
   split at he
   ·exact hx e he
   ·rcases Array.mem_push.1 he with h | h
    ·exact hx e h
    ·rw[h]
     exact Array.getElem_mem _
theorem Lasts.same{a b:Frame}(h1:b.fn=a.fn)(h2:b.roundOf=a.roundOf)(l:List Frame):Lasts (a :: l) (b :: l):=by
 unfold Lasts
 cases l with
 | nil=>simp [h1,h2]
 | cons x l=>simp [List.getLast?_cons_cons]
theorem Lasts.push(a b:Frame)(l:List Frame):Lasts (a :: l) (b :: a :: l):=by
 unfold Lasts
 rw[List.getLast?_cons_cons]
theorem CStep.turn(h:∀ cs w,ST X cs w=.go (mkG fr1 (frs1 ++ cs)) w):CStep ST X u fr1 frs1 u:=
 ⟨0,rfl,fun cs J W τ d hS _=>⟨W,#[],h cs _,hS,rfl,rfl,fun _ _=>rfl,Nat.le_refl _,fun e he=>by simp at he⟩⟩
theorem OneStep.turn(hc:CleanH (clL P E) u)(h:∀ X cs w,ST X cs w=.go (mkG fr1 (frs1 ++ cs)) w)(h1:FrOk P E fr1)(h2:∀ x∈frs1,FrOk P E x)(hl:Lasts l (fr1 :: frs1)):OneStep P F E D ST l u:=
 .inr ⟨fr1,frs1,u,⟨rfl,rfl,rfl,Nat.le_refl _,hc⟩,hl,.turn (h _),.inr ⟨.turn (h _),h1,h2,.inl (.turn (h _))⟩⟩
theorem CStep.ofMir{s:Sem α}{v:α}(m:Mir X s u u1 (.ok v u1))(h:∀ cs w w1 es,s.runT X w #[]=(.ok v w1,es)->∃ es',ST X cs w=.go (mkG fr1 (frs1 ++ cs)) w1 es'/\∀ e∈es',e∈es):CStep ST X u fr1 frs1 u1:=by
 obtain⟨n,hd,hm⟩:=m.out
 refine⟨n,hd,fun cs J W τ d hS hτ=>?_⟩
 obtain⟨W1,es1,e,hS1,ho,hu,hJ,hz,hev⟩:=hm J W τ d #[] hS hτ
 obtain⟨es',e2,hsub⟩:=h cs _ _ _ e
 exact⟨W1,es',e2,hS1,ho,hu,hJ,hz,fun e he=>hev e (by simpa using hsub e he)⟩
theorem CStep.ofMirP{s:Sem α}{v:Value}(m:Mir X s u u1 (.halt (.panic v) u1))(h:∀ cs w w1 es,s.runT X w #[]=(.halt (.panic v) w1,es)->∃ es',ST X cs w=.go (mkG fr1 (frs1 ++ cs)) w1 es'/\∀ e∈es',e∈es):CStep ST X u fr1 frs1 u1:=by
 obtain⟨n,hd,hm⟩:=m.out
 refine⟨n,hd,fun cs J W τ d hS hτ=>?_⟩
 obtain⟨W1,es1,e,hS1,ho,hu,hJ,hz,hev⟩:=hm J W τ d #[] hS hτ
 obtain⟨es',e2,hsub⟩:=h cs _ _ _ e
 exact⟨W1,es',e2,hS1,ho,hu,hJ,hz,fun e he=>hev e (by simpa using hsub e he)⟩
theorem FrOk.finish(h:FrOk P E fr)(v:Value):FrOk P E (fr.finish v):=by
 obtain⟨h1,h2,h3,h4⟩:=h
 unfold Frame.finish
 split
 ·rename_i ops i rest k e
  rw[e]at h1
  refine⟨fun x hx=>?_,h2,h3,h4⟩
  rcases List.mem_cons.1 hx with rfl | hx
  ·exact h1 (.inRegion ops (i :: rest)) List.mem_cons_self
  ·exact h1 x (List.mem_cons_of_mem _ hx)
 ·rename_i l k e
  rw[e]at h1
  refine⟨fun x hx=>?_,h2,h3,h4⟩
  rcases List.mem_cons.1 hx with rfl | hx
  ·trivial
  ·exact h1 x (List.mem_cons_of_mem _ hx)
 ·rename_i k e
  rw[e]at h1
  exact⟨fun x hx=>h1 x (List.mem_cons_of_mem _ hx),h2,h3,h4⟩
 ·rename_i e
  rw[e]at h1
  exact (h1 _ List.mem_cons_self).elim
 ·rename_i e
  rw[e]at h1
  exact (h1 _ List.mem_cons_self).elim
 ·exact⟨h1,h2,h3,h4⟩
theorem finish_fn(fr:Frame)(v:Value):(fr.finish v).fn=fr.fn/\(fr.finish v).roundOf=fr.roundOf:=by
 unfold Frame.finish
 split <;> exact⟨rfl,rfl⟩
theorem raise_fn(fr:Frame)(vs:List PanicEntry):(fr.raise vs).fn=fr.fn/\(fr.raise vs).roundOf=fr.roundOf:=by
 unfold Frame.raise
 split <;> exact⟨rfl,rfl⟩
theorem FrOk.raise(h:FrOk P E fr)(vs:List PanicEntry):FrOk P E (fr.raise vs):=by
 obtain⟨h1,h2,h3,h4⟩:=h
 unfold Frame.raise
 split <;> exact⟨h1,h2,h3,h4⟩
theorem enter_eq{f:FuncId}{fn:Func}(hf:P.funcs[f]?=some fn)(hk:okFunc P E fn=true)(args:Array Value)(k:CallKind):Frame.enter (ofF P (maskF P E)) f args k=Frame.enter P f args k:=by
 have hm:(ofF P (maskF P E)).funcs[f]?=_:=maskF_get (P:=P) (E:=E) f
 rw[hf,Option.map_some,if_pos hk]at hm
 unfold Frame.enter
 dsimp only
 rw[hf,hm]
theorem FrOk.enter{f:FuncId}{fn:Func}(hf:P.funcs[f]?=some fn)(hk:okFunc P E fn=true)(args:Array Value):FrOk P E (Frame.enter P f args .normal):=by
 refine⟨fun i hi=>?_,fun d hd=>by simp[Frame.enter]at hd,rfl,fn,hf,hk⟩
 simp only[Frame.enter,hf,Option.bind_some,List.mem_singleton]at hi
 subst hi
 show okCode P _=true
 cases hb:fn.body with
 | none=>rfl
 | some c=>
   unfold okFunc at hk
   rw[hb]at hk
   exact hk
theorem FrOk.round{f:FuncId}(hf:∃ fn,P.funcs[f]?=some fn/\okFunc P E fn=true){a b:Code}(ha:okCode P a=true)(hb:okCode P b=true)(l:Nat)(t:Array Value):FrOk P E (Frame.round l f t a b .normal):=by
 refine⟨fun i hi=>?_,fun d hd=>by simp[Frame.round]at hd,rfl,hf⟩
 simp only[Frame.round,List.mem_cons,List.not_mem_nil,or_false]at hi
 rcases hi with rfl | rfl | rfl
 ·exact ha
 ·trivial
 ·exact hb
theorem runT_fst{α:Type}(p:Program)(s:Sem α)(w:World)(es:Array Event):(s.runT p w es).1=s.run p w:=by simp
theorem apply_one{s:Sem Next}(hA:Alike P F E D)(hs:TN P P.funcs E s)(hr:TN P F E s)(hf:FrOk P E fr)(hfs:∀ x∈frs,FrOk P E x)(hc:CleanH (clL P E) u)(hst:∀ X cs w,ST X cs w=stepG.apply X true fr (frs ++ cs) none s w):OneStep P F E D ST (fr :: frs) u:=by
 have h1:=TameS.sound (X:=ofF P (maskF P E)) (own:=True) (.inl ⟨rfl,trivial⟩) (hs fun _=>False) u hc fun k h=>h.elim
 have h2:=TameS.sound (X:=P) (own:=False) (.inr ⟨rfl,id⟩) (hs fun _=>False) u hc fun k h=>h.elim
 have h3:=TameS.sound (X:=ofF P F) (own:=False) (.inr ⟨rfl,id⟩) (hr fun _=>False) u hc fun k h=>h.elim
 have he:(fr.kind == .early)=false:=by rw[hf.kind];rfl
 cases hrn:s.run (ofF P (maskF P E)) u with
 | ok v u1=>
   rw[hrn]at h1 h2 h3
   obtain⟨⟨N',hq,_⟩,hK,m1⟩:=h1
   obtain⟨_,_,m2⟩:=h2
   obtain⟨_,_,m3⟩:=h3
   have m1:=m1.resolve_left fun h=>h.1 trivial
   have m2:BadN P E v\/Mir P s u u1 (.ok v u1):=m2.imp And.right id
   have m3:BadN P E v\/Mir (ofF P F) s u u1 (.ok v u1):=m3.imp And.right id
   have hq:=hq.2
   cases v with
   | value x=>
     have m2:=m2.resolve_left id
     have m3:=m3.resolve_left id
     have go:∀ X,Mir X s u u1 (.ok (.value x) u1)->CStep ST X u (fr.finish x) frs u1:=fun X m=>CStep.ofMir m fun cs w w1 es e=>⟨_,by rw[hst,stepG.apply];simp only[if_true,e,he];rfl,fun e he=>mem_seen (by simpa using he)⟩
     exact .inr ⟨_,frs,u1,hK,.same (finish_fn _ _).1 (finish_fn _ _).2 _,go _ m1,.inr ⟨go _ m2,hf.finish x,hfs,.inl (go _ m3)⟩⟩
   | skip=>
     have m2:=m2.resolve_left id
     have m3:=m3.resolve_left id
     have go:∀ X,Mir X s u u1 (.ok .skip u1)->CStep ST X u (fr.finish undef) frs u1:=fun X m=>CStep.ofMir m fun cs w w1 es e=>⟨_,by rw[hst,stepG.apply];simp only[if_true,e,he];rfl,fun e he=>mem_seen (by simpa using he)⟩
     exact .inr ⟨_,frs,u1,hK,.same (finish_fn _ _).1 (finish_fn _ _).2 _,go _ m1,.inr ⟨go _ m2,hf.finish undef,hfs,.inl (go _ m3)⟩⟩
   | enter f args=>
     have go:∀ X,Mir X s u u1 (.ok (.enter f args) u1)->CStep ST X u (Frame.enter X f args .normal) (fr :: frs) u1:=fun X m=>CStep.ofMir m fun cs w w1 es e=>⟨seen X fr.fn es ++ #[],by
      rw[hst,stepG.apply]
      simp only[if_true,e,he,Bool.false_eq_true,if_false]
      split
      ·rename_i e2
       have hx:=hf.todo _ (by rw[e2];exact List.mem_cons_self)
       exact hx.elim
      ·rfl,fun e he=>mem_seen (by simpa using he)⟩
     obtain⟨fn,hfn⟩:=hq
     cases ho:okFunc P E fn with
     | false=>exact .inr ⟨_,_,u1,hK,.push _ _ _,go _ m1,.inl ⟨f,args,rfl,fn,hfn,ho⟩⟩
     | true=>
       have m2:=m2.resolve_left fun ⟨fn',h1,h2⟩=>by
        rw[hfn]at h1
        obtain rfl:=Option.some.inj h1
        rw[ho]at h2;cases h2
       have m3:=m3.resolve_left fun ⟨fn',h1,h2⟩=>by
        rw[hfn]at h1
        obtain rfl:=Option.some.inj h1
        rw[ho]at h2;cases h2
       refine .inr ⟨_,_,u1,hK,.push _ _ _,go _ m1,.inr ⟨?_,?_,fun x hx=>?_,?_⟩⟩
       ·rw[enter_eq hfn ho];exact go _ m2
       ·rw[enter_eq hfn ho];exact FrOk.enter hfn ho args
       ·rcases List.mem_cons.1 hx with rfl | hx
        ·exact hf
        ·exact hfs x hx
       ·rw[enter_eq hfn ho]
        by_cases hD:f=D
        ·subst hD
         exact .inr ⟨args,rfl,go _ m3⟩
        ·have hg:=go _ m3
         rw[show Frame.enter (ofF P F) f args .normal=Frame.enter P f args .normal from by unfold Frame.enter;dsimp only;rw[hA.same f hD]]at hg
         exact .inl hg
   | round l f t a b=>
     have m2:=m2.resolve_left id
     have m3:=m3.resolve_left id
     have go:∀ X,Mir X s u u1 (.ok (.round l f t a b) u1)->CStep ST X u (Frame.round l f t a b .normal) (fr :: frs) u1:=fun X m=>CStep.ofMir m fun cs w w1 es e=>⟨_,by rw[hst,stepG.apply];simp only[if_true,e,he];rfl,fun e he=>mem_seen (by simpa using he)⟩
     refine .inr ⟨_,_,u1,hK,.push _ _ _,go _ m1,.inr ⟨go _ m2,FrOk.round hq.2.2 hq.1 hq.2.1 l t,fun x hx=>?_,.inl (go _ m3)⟩⟩
     rcases List.mem_cons.1 hx with rfl | hx
     ·exact hf
     ·exact hfs x hx
   | _=>exact hq.elim
 | halt h u1=>
   rw[hrn]at h1 h2 h3
   by_cases hp:∃ v,h=.panic v
   ·obtain⟨v,rfl⟩:=hp
    obtain⟨hK,m1⟩:=h1
    obtain⟨_,m2⟩:=h2
    obtain⟨_,m3⟩:=h3
    have go:∀ X,Mir X s u u1 (.halt (.panic v) u1)->CStep ST X u (fr.raise [{v,recovered:=false}]) frs u1:=fun X m=>CStep.ofMirP m fun cs w w1 es e=>⟨_,by rw[hst,stepG.apply];simp only[if_true,e,he];rfl,fun e he=>mem_seen (by simpa using he)⟩
    exact .inr ⟨_,frs,u1,hK,.same (raise_fn _ _).1 (raise_fn _ _).2 _,go _ m1,.inr ⟨go _ m2,hf.raise _,hfs,.inl (go _ m3)⟩⟩
   ·have hE:Ends h:=by cases h <;> first | exact h1 | exact absurd ⟨_,rfl⟩ hp
    refine .inl fun cs=>?_
    rw[hst,stepG.apply]
    have e1:=runT_fst (ofF P (maskF P E)) s u #[]
    cases hrt:s.runT (ofF P (maskF P E)) u #[]with
    | mk r es2=>
      rw[hrt,hrn]at e1
      subst e1
      simp only[if_true,hrt,he]
      cases h <;> first | exact hE.elim | exact⟨_,_,_,rfl⟩ | skip
      rename_i us
      cases us <;> first | exact hE.elim | exact⟨_,_,_,rfl⟩
end
end
section
open Go
section
variable {P:Program} {FR:Array Func} {D:FuncId} {E:List String} {fr:Frame} {frs:List Frame} {u:World}
theorem exitTo_ok{id:Nat}:∀ {k k':List Item},exitTo id k=some k'->(∀ i∈k,ItemOk P i)->∀ i∈k',ItemOk P i
 | [],_,h,_=>by simp[exitTo]at h
 | a :: k,k',h,hk=>by
   have hk2:∀ i∈k,ItemOk P i:=fun i hi=>hk i (List.mem_cons_of_mem _ hi)
   unfold exitTo at h
   split at h
   ·rename_i e
    injection e with e1 e2
    subst e2
    split at h
    ·obtain rfl:=Option.some.inj h
     exact hk2
    ·exact exitTo_ok h hk2
   ·rename_i e
    injection e with e1 e2
    subst e2
    exact exitTo_ok h hk2
   ·rename_i e
    cases e
theorem findLabel_ok{l:Nat}:∀ {c r:Code},findLabel c l=some r->okCode P c=true->okCode P r=true
 | .seq a b,r,h,hc=>by
   simp only[okCode,Bool.and_eq_true]at hc
   unfold findLabel at h
   cases ha:findLabel a l with
   | some x=>
     rw[ha]at h
     obtain rfl:=Option.some.inj h
     simp only[okCode,Bool.and_eq_true]
     exact⟨findLabel_ok ha hc.1,hc.2⟩
   | none=>
     rw[ha]at h
     exact findLabel_ok h hc.2
 | .label l',r,h,hc=>by
   unfold findLabel at h
   split at h
   ·obtain rfl:=Option.some.inj h
    rfl
   ·cases h
 | .skip,_,h,_ | .region ..,_,h,_ | .cond ..,_,h,_ | .block ..,_,h,_ | .loop ..,_,h,_ | .rangeFunc ..,_,h,_ | .exit ..,_,h,_ | .scope ..,_,h,_ | .goto ..,_,h,_ | .ret,_,h,_ | .refuse ..,_,h,_=>by simp[findLabel]at h
theorem gotoIn_ok{l:Nat}:∀ {k k':List Item},gotoIn l k=some k'->(∀ i∈k,ItemOk P i)->∀ i∈k',ItemOk P i
 | [],_,h,_=>by simp[gotoIn]at h
 | a :: k,k',h,hk=>by
   have hk2:∀ i∈k,ItemOk P i:=fun i hi=>hk i (List.mem_cons_of_mem _ hi)
   unfold gotoIn at h
   split at h
   ·rename_i body k2 e
    injection e with e1 e2
    subst e1 e2
    split at h
    ·rename_i rest hr
     obtain rfl:=Option.some.inj h
     intro i hi
     rcases List.mem_cons.1 hi with rfl | hi
     ·exact findLabel_ok hr (hk (.inScope body) List.mem_cons_self)
     ·exact hk i hi
    ·exact gotoIn_ok h hk2
   ·rename_i e
    injection e with e1 e2
    subst e2
    exact gotoIn_ok h hk2
   ·rename_i e
    cases e
theorem FrOk.to(h:FrOk P E fr){todo:List Item}(ht:∀ i∈todo,ItemOk P i):FrOk P E {fr with todo}:=⟨ht,h.defs,h.kind,h.fn⟩
theorem to_one(hf:FrOk P E fr)(hfs:∀ x∈frs,FrOk P E x)(hc:CleanH (clL P E) u){todo:List Item}(ht:∀ i∈todo,ItemOk P i){ST:Stp}(h:∀ X cs w,ST X cs w=.go (mkG {fr with todo} (frs ++ cs)) w):OneStep P FR E D ST (fr :: frs) u:=
 OneStep.turn hc h (hf.to ht) hfs (Lasts.same (a:=fr) (by rfl) (by rfl) _)
theorem lost_of{ST:Stp}{l:List Frame}{u:World}(h:∀ cs,∃ o w es,ST (ofF P (maskF P E)) cs u=.ended o w es):OneStep P FR E D ST l u:=.inl h
theorem sem_one{α:Type}{Q:α->Prop}{s:Sem α}(hs:∀ F,Tm (ofF P F) (maskF P E) (clL P E) s Q){ST:Stp}{l:List Frame}(hc:CleanH (clL P E) u)(F:α->Frame)(G:Value->Frame)(frs1:List Frame)
  (hF:∀ v,Q v->FrOk P E (F v)/\Lasts l (F v :: frs1)) (hG:∀ v,FrOk P E (G v)/\Lasts l (G v :: frs1)) (hfs:∀ x∈frs1,FrOk P E x)
  (h1:∀ X cs w v w1 es,Q v->s.runT X w #[]=(.ok v w1,es)->∃ es',ST X cs w=.go (mkG (F v) (frs1 ++ cs)) w1 es'/\∀ e∈es',e∈es)
  (h2:(∀ X cs w v w1 es,s.runT X w #[]=(.halt (.panic v) w1,es)->∃ es',ST X cs w=.go (mkG (G v) (frs1 ++ cs)) w1 es'/\∀ e∈es',e∈es)\/(∀ cs w v w1 es,s.runT (ofF P (maskF P E)) w #[]=(.halt (.panic v) w1,es)->∃ o w' es',ST (ofF P (maskF P E)) cs w=.ended o w' es'))
  (h3:∀ cs w h w1 es,(∀ v,h≠.panic v)->s.runT (ofF P (maskF P E)) w #[]=(.halt h w1,es)->∃ o w' es',ST (ofF P (maskF P E)) cs w=.ended o w' es'):OneStep P FR E D ST l u:=by
 have s1:=TameS.sound (X:=ofF P (maskF P E)) (own:=True) (.inl ⟨rfl,trivial⟩) (hs P.funcs fun _=>False) u hc fun k h=>h.elim
 have s2:=TameS.sound (X:=P) (own:=False) (.inr ⟨rfl,id⟩) (hs P.funcs fun _=>False) u hc fun k h=>h.elim
 have s3:=TameS.sound (X:=ofF P FR) (own:=False) (.inr ⟨rfl,id⟩) (hs FR fun _=>False) u hc fun k h=>h.elim
 have e1:=runT_fst (ofF P (maskF P E)) s u #[]
 cases hrun:s.run (ofF P (maskF P E)) u with
 | ok v u1=>
   rw[hrun]at s1 s2 s3
   have m1:=s1.2.2.resolve_left fun h=>h.2
   have m2:=s2.2.2.resolve_left fun h=>h.2
   have m3:=s3.2.2.resolve_left fun h=>h.2
   obtain⟨N',hq,_⟩:=s1.1
   have go:∀ X,Mir X s u u1 (.ok v u1)->CStep ST X u (F v) frs1 u1:=fun X m=>CStep.ofMir m fun cs w w1 es e=>h1 X cs w v w1 es hq.2 e
   exact .inr ⟨_,frs1,u1,s1.2.1,(hF v hq.2).2,go _ m1,.inr ⟨go _ m2,(hF v hq.2).1,hfs,.inl (go _ m3)⟩⟩
 | halt h u1=>
   rw[hrun]at s1 s2 s3 e1
   cases hrt:s.runT (ofF P (maskF P E)) u #[]with
   | mk r es2=>
     rw[hrt]at e1
     subst e1
     by_cases hp:∃ v,h=.panic v
     ·obtain⟨v,rfl⟩:=hp
      rcases h2 with h2 | h2
      ·have go:∀ X,Mir X s u u1 (.halt (.panic v) u1)->CStep ST X u (G v) frs1 u1:=fun X m=>CStep.ofMirP m fun cs w w1 es e=>h2 X cs w v w1 es e
       exact .inr ⟨_,frs1,u1,s1.1,(hG v).2,go _ s1.2,.inr ⟨go _ s2.2,(hG v).1,hfs,.inl (go _ s3.2)⟩⟩
      ·exact lost_of fun cs=>h2 cs u v u1 es2 hrt
     ·exact lost_of fun cs=>h3 cs u h u1 es2 (fun v e=>hp ⟨v,e⟩) hrt
theorem leave_one(hf:FrOk P E fr)(hfs:∀ x∈frs,FrOk P E x)(hc:CleanH (clL P E) u)(hb:frs=[]->fr.roundOf=none)(jump:Option Code)(hj:∀ c,jump=some c->okCode P c=true){ST:Stp}
  (h0:∀ X cs w,fr.roundOf=none->(jump=none\/jump=some .ret)->ST X cs w=.go (mkG {fr with mode:=.returning} (frs ++ cs)) w)
  (h1:∀ cs w,fr.roundOf=none->¬(jump=none\/jump=some .ret)->∃ o w' es,ST (ofF P (maskF P E)) cs w=.ended o w' es)
  (h2:∀ X cs w l,fr.roundOf=some l->ST X cs w=(let (r,es):=(Instr.endRound l jump).runT X w #[]
     GStep.after (seen X fr.fn es) <| match r with
     | .ok v w=>doReturn X true fr (frs ++ cs) none v w
     | .halt _ w=>.ended (.stuck "range over a function: no such loop" (fr.pos X)) w)):OneStep P FR E D ST (fr :: frs) u:=by
 cases hr:fr.roundOf with
 | none=>
   by_cases hjj:jump=none\/jump=some .ret
   ·exact OneStep.turn hc (fun X cs w=>h0 X cs w hr hjj) ⟨hf.todo,hf.defs,hf.kind,hf.fn⟩ hfs (Lasts.same (a:=fr) (by rfl) (by rfl) _)
   ·exact lost_of fun cs=>h1 cs u hr hjj
 | some l=>
   cases frs with
   | nil=>rw [hb rfl]at hr;cases hr
   | cons c frs=>
     have hcf:=hfs c List.mem_cons_self
     have hl:∀ v,Lasts (fr :: c :: frs) (c.finish v :: frs):=fun v=>by
      unfold Lasts
      rw[List.getLast?_cons_cons]
      exact Lasts.same (finish_fn _ _).1 (finish_fn _ _).2 _
     refine sem_one (fun _=>tm_endRound l jump hj) hc (fun v=>c.finish v) (fun v=>c.finish v) frs (fun v _=>⟨hcf.finish v,hl v⟩) (fun v=>⟨hcf.finish v,hl v⟩) (fun x hx=>hfs x (List.mem_cons_of_mem _ hx)) (fun X cs w v w1 es _ e=>⟨seen X fr.fn es ++ #[],?_,fun e he=>mem_seen (by simpa using he)⟩) (.inr fun cs w v w1 es e=>⟨_,_,_,by rw[h2 _ cs w l hr,e];rfl⟩) fun cs w h w1 es _ e=>⟨_,_,_,by rw[h2 _ cs w l hr,e];rfl⟩
     rw[h2 X cs w l hr,e]
     simp only[List.cons_append,doReturn,hf.kind]
     rfl
theorem CStep.chain{α:Type}{X:Program}{s:Sem α}{v:α}{u1 u2:World}{fr1:Frame}{frs1:List Frame}{ST ST2:Stp}{fn:FuncId}(m:Mir X s u u1 (.ok v u1))(ht:u1.tape=u.tape)(c:CStep ST2 X u1 fr1 frs1 u2)
  (h:∀ cs w w1 es,s.runT X w #[]=(.ok v w1,es)->ST X cs w=GStep.after (seen X fn es) (ST2 X cs w1)):CStep ST X u fr1 frs1 u2:=by
 obtain⟨n,hd,hm⟩:=m.out
 obtain⟨n2,hd2,hc⟩:=c
 refine⟨n+n2,by omega,fun cs J W τ d hS hτ=>?_⟩
 obtain⟨W1,es1,e,hS1,ho,hu,hJ,hz,hev⟩:=hm J W τ d #[] hS fun i hi q=>hτ i (by omega) q
 obtain⟨W2,es2,e2,hS2,ho2,hu2,hJ2,hz2,hev2⟩:=hc cs J W1 τ (d+n) hS1 fun i hi q=>by
  have:=hτ (n+i) (by omega) q
  rw[ht,hd,Nat.add_assoc,Nat.add_assoc]
  exact this
 refine⟨W2,seen X fn (#[] ++ es1) ++ es2,?_,hS2,ho2.trans ho,hu2.trans hu,fun k hk=>(hJ2 k hk).trans (hJ k hk),Nat.le_trans hz hz2,fun e he=>?_⟩
 ·rw[h cs _ _ _ e,e2,Nat.add_assoc]
  rfl
 ·rcases Array.mem_append.1 he with he | he
  ·exact (hev e (by simpa using mem_seen he)).mono hz2
  ·exact hev2 e he
theorem chain_one{α:Type}{Q:α->Prop}{s:Sem α}(hs:∀ F,Tm (ofF P F) (maskF P E) (clL P E) s Q){ST:Stp}{ST2:α->Stp}{fn:FuncId}{l:List Frame}(hc:CleanH (clL P E) u)
  (h1:∀ X cs w v w1 es,Q v->s.runT X w #[]=(.ok v w1,es)->ST X cs w=GStep.after (seen X fn es) (ST2 v X cs w1))
  (h3:∀ cs w h w1 es,s.runT (ofF P (maskF P E)) w #[]=(.halt h w1,es)->∃ o w' es',ST (ofF P (maskF P E)) cs w=.ended o w' es')
  (hn:∀ v u1,Q v->CleanH (clL P E) u1->OneStep P FR E D (ST2 v) l u1):OneStep P FR E D ST l u:=by
 have s1:=TameS.sound (X:=ofF P (maskF P E)) (own:=True) (.inl ⟨rfl,trivial⟩) (hs P.funcs fun _=>False) u hc fun k h=>h.elim
 have s2:=TameS.sound (X:=P) (own:=False) (.inr ⟨rfl,id⟩) (hs P.funcs fun _=>False) u hc fun k h=>h.elim
 have s3:=TameS.sound (X:=ofF P FR) (own:=False) (.inr ⟨rfl,id⟩) (hs FR fun _=>False) u hc fun k h=>h.elim
 have e1:=runT_fst (ofF P (maskF P E)) s u #[]
 cases hrt:s.runT (ofF P (maskF P E)) u #[]with
 | mk r es2=>
   rw[hrt]at e1
   cases hrun:s.run (ofF P (maskF P E)) u with
   | ok v u1=>
     rw[hrun]at s1 s2 s3 e1
     simp only at e1
     subst e1
     have m1:=s1.2.2.resolve_left fun h=>h.2
     have m2:=s2.2.2.resolve_left fun h=>h.2
     have m3:=s3.2.2.resolve_left fun h=>h.2
     obtain⟨N',hq,_⟩:=s1.1
     have hK:=s1.2.1
     rcases hn v u1 hq.2 hK.clean with hl |⟨fr1,frs1,u2,hK2,hla,c1,hrest⟩
     ·refine .inl fun cs=>?_
      obtain⟨o,w,es,e⟩:=hl cs
      rw[h1 _ cs u v u1 es2 hq.2 hrt,e]
      exact⟨_,_,_,rfl⟩
     ·have hK3:Kpt (clL P E) u u2:=hK2.step hK.tape hK.os hK.output hK.size
      refine .inr ⟨fr1,frs1,u2,hK3,hla,CStep.chain m1 hK.tape c1 fun cs w w1 es e=>h1 _ cs w v w1 es hq.2 e,hrest.imp id fun ⟨c2,h2,h4,h5⟩=>⟨CStep.chain m2 hK.tape c2 fun cs w w1 es e=>h1 _ cs w v w1 es hq.2 e,h2,h4,h5.imp (fun c3=>CStep.chain m3 hK.tape c3 fun cs w w1 es e=>h1 _ cs w v w1 es hq.2 e) fun ⟨args,ea,c3⟩=>⟨args,ea,CStep.chain m3 hK.tape c3 fun cs w w1 es e=>h1 _ cs w v w1 es hq.2 e⟩⟩⟩
   | halt h u1=>
     rw[hrun]at e1
     simp only at e1
     subst e1
     exact lost_of fun cs=>h3 cs u h u1 es2 hrt
end
end
section
open Go
set_option maxHeartbeats 8000000
section
variable {P:Program} {F:Array Func} {D:FuncId} {E:List String} {fr:Frame} {frs:List Frame} {u:World}
theorem exec_stp(hm:fr.mode=.run)(X:Program)(cs:List Frame)(w:World):stp fr frs X cs w=stepG.exec X true true fr (frs ++ cs) none w:=by
 obtain⟨a,b,c,d,m,k,r⟩:=fr
 simp only at hm
 subst hm
 rfl
theorem OneStep.lasts{ST:Stp}{l l':List Frame}(hl:Lasts l l')(h:OneStep P F E D ST l' u):OneStep P F E D ST l u:=by
 rcases h with h |⟨fr1,frs1,u1,h1,h2,h3⟩
 ·exact .inl h
 ·exact .inr ⟨fr1,frs1,u1,h1,Eq.trans h2 hl,h3⟩
theorem run_one(hE:Ext P E)(hA:Alike P F E D)(h0:Alike P P.funcs E D)(hf:FrOk P E fr)(hfs:∀ x∈frs,FrOk P E x)(hc:CleanH (clL P E) u)(hb:frs=[]->fr.roundOf=none)(hm:fr.mode=.run):OneStep P F E D (stp fr frs) (fr :: frs) u:=by
 have hex:=fun X cs w=>exec_stp (frs:=frs) hm X cs w
 have htd:=hf.todo
 have leave:∀ (jump:Option Code),(∀ c,jump=some c->okCode P c=true)->(∀ X cs w,stepG.exec X true true fr (frs ++ cs) none w=(match fr.roundOf with
   | none=>if jump matches none | some .ret then .go {frame:={fr with mode:=.returning},callers:=frs ++ cs,status:=.running,dying:=none} w else .ended (.stuck "exit, goto: no such block or label" (fr.pos X)) w
   | some l=>(let (r,es):=(Instr.endRound l jump).runT X w #[]
     GStep.after (seen X fr.fn es) <| match r with
     | .ok v w=>doReturn X true fr (frs ++ cs) none v w
     | .halt _ w=>.ended (.stuck "range over a function: no such loop" (fr.pos X)) w)))->OneStep P F E D (stp fr frs) (fr :: frs) u:=fun jump hj h=>
  leave_one hf hfs hc hb jump hj (fun X cs w hr hjj=>by rw[hex,h,hr];rcases hjj with rfl | rfl <;> rfl)
   (fun cs w hr hjj=>by
     rw[hex,h,hr]
     rcases jump with _ | c
     ·exact absurd (.inl rfl) hjj
     ·cases c <;> first | exact absurd (.inr rfl) hjj | exact⟨_,_,_,rfl⟩)
   (fun X cs w l hr=>by rw[hex,h,hr];try rfl)
 cases ht:fr.todo with
 | nil=>exact leave none (fun c h=>by cases h) fun X cs w=>by rw[stepG.exec];simp only[ht];rfl
 | cons i k=>
   rw[ht]at htd
   have hi:=htd i List.mem_cons_self
   have hk:∀ x∈k,ItemOk P x:=fun x hx=>htd x (List.mem_cons_of_mem _ hx)
   cases i with
   | code c=>
     cases c with
     | ret=>exact leave (some .ret) (fun c h=>by cases h;rfl) fun X cs w=>by rw[stepG.exec];simp only[ht];rfl
     | skip=>exact to_one hf hfs hc hk fun X cs w=>by rw[hex,stepG.exec];simp only[ht];rfl
     | label l=>exact to_one hf hfs hc hk fun X cs w=>by rw[hex,stepG.exec];simp only[ht];rfl
     | seq a b=>
       simp only[ItemOk,okCode,Bool.and_eq_true]at hi
       exact to_one (todo:=.code a :: .code b :: k) hf hfs hc (fun x hx=>by
        rcases List.mem_cons.1 hx with rfl | hx
        ·exact hi.1
        rcases List.mem_cons.1 hx with rfl | hx
        ·exact hi.2
        ·exact hk x hx) fun X cs w=>by rw[hex,stepG.exec];simp only[ht];rfl
     | cond c a b=>
       simp only[ItemOk,okCode,Bool.and_eq_true]at hi
       by_cases hcb:∃ v,fr.eval c=.bool v
       ·obtain⟨v,hv⟩:=hcb
        exact to_one (todo:=.code (if v then a else b) :: k) hf hfs hc (fun x hx=>by
         rcases List.mem_cons.1 hx with rfl | hx
         ·show okCode P _=true
          split
          ·exact hi.1
          ·exact hi.2
         ·exact hk x hx) fun X cs w=>by rw[hex,stepG.exec];simp only[ht,hv];rfl
       ·refine lost_of fun cs=>?_
        rw[hex,stepG.exec]
        simp only[ht]
        split
        ·rename_i v hv
         exact absurd ⟨v,hv⟩ hcb
        ·exact⟨_,_,_,rfl⟩
     | block id b=>
       exact to_one (todo:=.code b :: .inBlock id :: k) hf hfs hc (fun x hx=>by
        rcases List.mem_cons.1 hx with rfl | hx
        ·exact hi
        rcases List.mem_cons.1 hx with rfl | hx
        ·trivial
        ·exact hk x hx) fun X cs w=>by rw[hex,stepG.exec];simp only[ht];rfl
     | loop b=>
       exact to_one (todo:=.code b :: .inLoop b :: k) hf hfs hc (fun x hx=>by
        rcases List.mem_cons.1 hx with rfl | hx
        ·exact hi
        rcases List.mem_cons.1 hx with rfl | hx
        ·exact hi
        ·exact hk x hx) fun X cs w=>by rw[hex,stepG.exec];simp only[ht];rfl
     | scope b=>
       exact to_one (todo:=.code b :: .inScope b :: k) hf hfs hc (fun x hx=>by
        rcases List.mem_cons.1 hx with rfl | hx
        ·exact hi
        rcases List.mem_cons.1 hx with rfl | hx
        ·exact hi
        ·exact hk x hx) fun X cs w=>by rw[hex,stepG.exec];simp only[ht];rfl
     | exit id=>
       cases he:exitTo id k with
       | some k'=>exact to_one hf hfs hc (exitTo_ok he hk) fun X cs w=>by rw[hex,stepG.exec];simp only[ht,he];rfl
       | none=>exact leave (some (.exit id)) (fun c h=>by cases h;rfl) fun X cs w=>by rw[stepG.exec];simp only[ht,he];rfl
     | goto l=>
       cases he:gotoIn l k with
       | some k'=>exact to_one hf hfs hc (gotoIn_ok he hk) fun X cs w=>by rw[hex,stepG.exec];simp only[ht,he];rfl
       | none=>exact leave (some (.goto l)) (fun c h=>by cases h;rfl) fun X cs w=>by rw[stepG.exec];simp only[ht,he];rfl
     | refuse why=>exact lost_of fun cs=>by rw[hex,stepG.exec];simp only[ht];exact⟨_,_,_,rfl⟩
     | region id ops draw=>
       have hops:∀ o∈ops.toList,okOp P o.op=true:=by simpa only[ItemOk,okCode,List.all_eq_true]using hi
       have htodo:∀ l,∀ x∈Item.inRegion ops l :: k,ItemOk P x:=fun l x hx=>by
        rcases List.mem_cons.1 hx with rfl | hx
        ·exact hops
        ·exact hk x hx
       cases draw with
       | false=>exact to_one (todo:=.inRegion ops (List.range ops.size) :: k) hf hfs hc (htodo _) fun X cs w=>by rw[hex,stepG.exec];simp only[ht];rfl
       | true=>
         have key:∀ (X:Program) (cs:List Frame) (w:World),X.follows .mixedOrders=P.follows .mixedOrders->stp fr frs X cs w=.go (mkG {fr with todo:=.inRegion ops (Region.schedule (P.follows .mixedOrders) ops ((Question.order fr.fn id).cut (w.tape w.drawn (.order fr.fn id)))) :: k} (frs ++ cs)) {w with drawn:=w.drawn+1}:=fun X cs w hX=>by
          rw[hex,stepG.exec,<-hX]
          simp only[ht]
          rfl
         have go:∀ X:Program,X.follows .mixedOrders=P.follows .mixedOrders->CStep (stp fr frs) X u {fr with todo:=.inRegion ops (Region.schedule (P.follows .mixedOrders) ops ((Question.order fr.fn id).cut (u.tape u.drawn (.order fr.fn id)))) :: k} frs {u with drawn:=u.drawn+1}:=fun X hX=>by
          refine⟨1,rfl,fun cs J W τ d hS hτ=>⟨W,#[],?_,hS.of_heap rfl rfl rfl rfl,rfl,rfl,fun _ _=>rfl,Nat.le_refl _,fun e he=>by simp at he⟩⟩
          have h0:=hτ 0 (by omega) (.order fr.fn id)
          rw[key X cs _ hX,show (onT W τ d).tape (onT W τ d).drawn (Question.order fr.fn id)=u.tape u.drawn (Question.order fr.fn id)from h0]
          rfl
         exact .inr ⟨_,frs,{u with drawn:=u.drawn+1},⟨rfl,rfl,rfl,Nat.le_refl _,hc⟩,Lasts.same (a:=fr) (by rfl) (by rfl) _,go (ofF P (maskF P E)) rfl,.inr ⟨go P rfl,hf.to (htodo _),hfs,.inl (go (ofF P F) rfl)⟩⟩
     | rangeFunc f params a b=>
       simp only[ItemOk,okCode,Bool.and_eq_true]at hi
       refine chain_one (fun _=>tm_enterLoop fr.fn fr.tmps params a b hi.1 hi.2 hf.fn fr.roundOf) hc (fn:=fr.fn) (ST2:=fun x X cs w=>stepG.apply X true {fr with todo:=.inRangeFunc x.1 :: k,defers:=x.2 ++ fr.defers} (frs ++ cs) none (do let d <-resolve ({fr with todo:=.inRangeFunc x.1 :: k,defers:=x.2 ++ fr.defers}:Frame).eval {callee:=.value f,args:=#[.const (.func (.yield x.1) #[] #[])],argTypes:=#[]} 0;invoke d.target d.args) w) (fun X cs w v w1 es _ e=>?_) (fun cs w h w1 es e=>?_) fun v u1 hv hc1=>?_
       ·rw[hex,stepG.exec];simp only[ht,e]
       ·rw[hex,stepG.exec];simp only[ht,e];exact⟨_,_,_,rfl⟩
       ·refine OneStep.lasts (l':={fr with todo:=.inRangeFunc v.1 :: k,defers:=v.2 ++ fr.defers} :: frs) ?_ (apply_one (fr:={fr with todo:=.inRangeFunc v.1 :: k,defers:=v.2 ++ fr.defers}) hA (TN.bind (tm_resolve _ _ rfl _) fun d hd=>tn_invoke hE h0 _ hd _) (TN.bind (tm_resolve _ _ rfl _) fun d hd=>tn_invoke hE hA _ hd _) ⟨fun x hx=>?_,fun d hd=>?_,hf.kind,hf.fn⟩ hfs hc1 fun _ _ _=>rfl)
        ·exact Lasts.same (a:=fr) (by rfl) (by rfl) _
        ·rcases List.mem_cons.1 hx with rfl | hx
         ·trivial
         ·exact hk x hx
        ·rcases List.mem_append.1 hd with hd | hd
         ·rcases hv with hv |⟨r,hv⟩
          ·rw[hv]at hd;cases hd
          ·rw[hv,List.mem_singleton]at hd;exact⟨r,hd⟩
         ·exact hf.defs d hd
   | inBlock id=>exact to_one hf hfs hc hk fun X cs w=>by rw[hex,stepG.exec];simp only[ht];rfl
   | inScope b=>exact to_one hf hfs hc hk fun X cs w=>by rw[hex,stepG.exec];simp only[ht];rfl
   | inLoop b=>
     exact to_one (todo:=.code b :: .inLoop b :: k) hf hfs hc (fun x hx=>by
      rcases List.mem_cons.1 hx with rfl | hx
      ·exact hi
      rcases List.mem_cons.1 hx with rfl | hx
      ·exact hi
      ·exact hk x hx) fun X cs w=>by rw[hex,stepG.exec];simp only[ht];rfl
   | inRangeFunc l=>exact lost_of fun cs=>by rw[hex,stepG.exec];simp only[ht];exact⟨_,_,_,rfl⟩
   | call d b r s=>exact hi.elim
   | extern r a=>exact hi.elim
   | inRegion ops l=>
     cases l with
     | nil=>exact to_one hf hfs hc hk fun X cs w=>by rw[hex,stepG.exec];simp only[ht];rfl
     | cons i rest=>
       cases hw:((ops[i]?).map (Region.wanted · (yielded ops fr.tmps))).getD false with
       | false=>exact OneStep.turn hc (fr1:=fr.finish undef) (frs1:=frs) (fun X cs w=>by rw[hex,stepG.exec];simp only[ht,hw];rfl) (hf.finish _) hfs (Lasts.same (finish_fn _ _).1 (finish_fn _ _).2 _)
       | true=>
         cases ho:ops[i]? with
         | none=>rw [ho]at hw;cases hw
         | some o=>
           have hok:okOp P o.op=true:=hi o (by rw[Array.mem_toList_iff];exact Array.mem_of_getElem? ho)
           have hop:fr.oper?=some o:=by simp only[Frame.oper?,ht,ho]
           refine apply_one hA (tn_execOp hE h0 fr.eval (fun _=>rfl) o hok) (tn_execOp hE hA fr.eval (fun _=>rfl) o hok) hf hfs hc fun X cs w=>?_
           rw[hex,stepG.exec]
           simp only[ht,hw,if_true,stepG.oper,hop]
           split
           ·rename_i h1
            rw[h1]at hok
            simp[okOp]at hok
           ·rfl
   | endRangeFunc l=>
     refine sem_one (fun _=>tm_endLoop l) hc (fun j=>{fr with todo:=(j.map Item.code).toList ++ k}) (fun v=>fr.raise [{v,recovered:=false}]) frs (fun j hj=>⟨hf.to fun x hx=>?_,Lasts.same (a:=fr) (by rfl) (by rfl) _⟩) (fun v=>⟨hf.raise _,Lasts.same (raise_fn _ _).1 (raise_fn _ _).2 _⟩) hfs (fun X cs w v w1 es _ e=>⟨seen X fr.fn es ++ #[],?_,fun e he=>mem_seen (by simpa using he)⟩) (.inl fun X cs w v w1 es e=>⟨seen X fr.fn es ++ #[],?_,fun e he=>mem_seen (by simpa using he)⟩) fun cs w h w1 es hp e=>?_
     ·rcases List.mem_append.1 hx with hx | hx
      ·cases j with
       | none=>cases hx
       | some c=>
         simp only[Option.map_some,Option.toList_some,List.mem_singleton]at hx
         subst hx
         exact hj c rfl
      ·exact hk x hx
     ·rw[hex,stepG.exec];simp only[ht,e];rfl
     ·rw[hex,stepG.exec];simp only[ht,e];rfl
     ·rw[hex,stepG.exec]
      simp only[ht,e]
      cases h <;> first | exact absurd rfl (hp _) | exact⟨_,_,_,rfl⟩
   | beginRound=>
     refine apply_one (s:=do fr.roundOf.elim (stuck "beginRound: no round") Instr.beginRound;pure .skip) hA (tn_unit ?_) (tn_unit ?_) hf hfs hc fun X cs w=>by rw[hex,stepG.exec];simp only[ht]
     all_goals cases fr.roundOf with
     | none=>exact tm_stuck
     | some l=>exact tm_beginRound l
theorem unwind_stp(hm:fr.mode≠.run)(X:Program)(cs:List Frame)(w:World):stp fr frs X cs w=unwind X true fr (frs ++ cs) none w:=by
 obtain⟨a,b,c,d,m,k,r⟩:=fr
 simp only at hm
 cases m <;> first | exact absurd rfl hm | rfl
theorem same_fn(hf:FrOk P E fr):∃ fn,P.funcs[fr.fn]?=some fn/\(ofF P (maskF P E)).funcs[fr.fn]?=some fn:=by
 obtain⟨fn,h1,h2⟩:=hf.fn
 refine⟨fn,h1,?_⟩
 have hm:(ofF P (maskF P E)).funcs[fr.fn]?=_:=maskF_get (P:=P) (E:=E) fr.fn
 rw[hm,h1,Option.map_some,if_pos h2]
theorem unwind_one(hA:Alike P F E D)(hf:FrOk P E fr)(hfs:∀ x∈frs,FrOk P E x)(hc:CleanH (clL P E) u)(hm:fr.mode≠.run)(hp:fr.defers=[]->frs≠[]):OneStep P F E D (stp fr frs) (fr :: frs) u:=by
 have hex:=fun X cs w=>unwind_stp (frs:=frs) hm X cs w
 cases hd:fr.defers with
 | cons d ds=>
   obtain⟨r,rfl⟩:=hf.defs d (by rw[hd];exact List.mem_cons_self)
   have hds:∀ x∈ds,∃ r,x={target:=.collected r,args:=#[]}:=fun x hx=>hf.defs x (by rw[hd];exact List.mem_cons_of_mem _ hx)
   refine sem_one (fun _=>tm_takeDeferred r) hc (fun calls=>{fr with defers:=calls ++ ds}) (fun _=>fr) frs (fun j hj=>⟨⟨hf.todo,fun x hx=>?_,hf.kind,hf.fn⟩,Lasts.same (a:=fr) (by rfl) (by rfl) _⟩) (fun v=>⟨hf,rfl⟩) hfs (fun X cs w v w1 es _ e=>⟨seen X fr.fn es ++ #[],?_,fun e he=>mem_seen (by simpa using he)⟩) (.inr fun cs w v w1 es e=>?_) fun cs w h w1 es _ e=>?_
   ·rw[hj]at hx
    exact hds x hx
   ·rw[hex,unwind];simp only[hd,e];rfl
   ·rw[hex,unwind];simp only[hd,e];exact⟨_,_,_,rfl⟩
   ·rw[hex,unwind];simp only[hd,e];exact⟨_,_,_,rfl⟩
 | nil=>
   cases frs with
   | nil=>exact absurd rfl (hp hd)
   | cons c frs=>
     obtain⟨fn,g1,g2⟩:=same_fn hf
     obtain⟨fnR,g3,g4,g5⟩:∃ fnR,(ofF P F).funcs[fr.fn]?=some fnR/\results fnR fr.tmps=results fn fr.tmps/\True:=by
      by_cases hD:fr.fn=D
      ·obtain⟨fd,c,c',kk,e1,e2,e3,e4⟩:=hA.real
       rw[hD,e1]at g1
       obtain rfl:=Option.some.inj g1
       exact⟨{fd with body:=some c,ntmps:=kk},by rw[hD];exact e4,rfl,trivial⟩
      ·exact⟨fn,(hA.same _ hD).trans g1,rfl,trivial⟩
     have hcf:=hfs c List.mem_cons_self
     have hl:∀ c',c'.fn=c.fn->c'.roundOf=c.roundOf->Lasts (fr :: c :: frs) (c' :: frs):=fun c' e1 e2=>by
      unfold Lasts
      rw[List.getLast?_cons_cons]
      exact Lasts.same e1 e2 _
     have hfs':∀ x∈frs,FrOk P E x:=fun x hx=>hfs x (List.mem_cons_of_mem _ hx)
     cases hmode:fr.mode with
     | run=>exact absurd hmode hm
     | panicking chain=>
       have step:∀ X:Program,X.funcs[fr.fn]?=some fn->∀ cs w,stp fr (c :: frs) X cs w=.go (mkG (c.raise chain) (frs ++ cs)) w:=fun X hX cs w=>by
        rw[hex,unwind]
        simp only[hd,hmode,Frame.catches,hX,List.cons_append]
        rfl
       have stepR:∀ X:Program,X.funcs[fr.fn]?=some fnR->∀ cs w,stp fr (c :: frs) X cs w=.go (mkG (c.raise chain) (frs ++ cs)) w:=fun X hX cs w=>by
        rw[hex,unwind]
        simp only[hd,hmode,Frame.catches,hX,List.cons_append]
        rfl
       exact .inr ⟨c.raise chain,frs,u,⟨rfl,rfl,rfl,Nat.le_refl _,hc⟩,hl _ (raise_fn _ _).1 (raise_fn _ _).2,.turn (step _ g2),.inr ⟨.turn (step _ g1),hcf.raise _,hfs',.inl (.turn (stepR _ g3))⟩⟩
     | returning=>
       have s1:=TameS.sound (X:=ofF P (maskF P E)) (own:=True) (.inl ⟨rfl,trivial⟩) (tm_results (P:=P) (F:=P.funcs) (E:=E) fn fr.tmps fun _=>False) u hc fun k h=>h.elim
       have s2:=TameS.sound (X:=P) (own:=False) (.inr ⟨rfl,id⟩) (tm_results (P:=P) (F:=P.funcs) (E:=E) fn fr.tmps fun _=>False) u hc fun k h=>h.elim
       have s3:=TameS.sound (X:=ofF P F) (own:=False) (.inr ⟨rfl,id⟩) (tm_results (P:=P) (F:=F) (E:=E) fn fr.tmps fun _=>False) u hc fun k h=>h.elim
       have e1:=runT_fst (ofF P (maskF P E)) (results fn fr.tmps) u #[]
       cases hrun:(results fn fr.tmps).run (ofF P (maskF P E)) u with
       | ok v u1=>
         rw[hrun]at s1 s2 s3
         have m1:=s1.2.2.resolve_left fun h=>h.2
         have m2:=s2.2.2.resolve_left fun h=>h.2
         have m3:=s3.2.2.resolve_left fun h=>h.2
         have goR:Mir (ofF P F) (results fn fr.tmps) u u1 (.ok v u1)->CStep (stp fr (c :: frs)) (ofF P F) u (c.finish v) frs u1:=fun m=>CStep.ofMir m fun cs w w1 es e=>⟨seen (ofF P F) fr.fn es ++ #[],by
          rw[hex,unwind]
          simp only[hd,hmode,g3,g4,e,doReturn,hf.kind,List.cons_append]
          rfl,fun e he=>mem_seen (by simpa using he)⟩
         have go:∀ X:Program,X.funcs[fr.fn]?=some fn->Mir X (results fn fr.tmps) u u1 (.ok v u1)->CStep (stp fr (c :: frs)) X u (c.finish v) frs u1:=fun X hX m=>CStep.ofMir m fun cs w w1 es e=>⟨seen X fr.fn es ++ #[],by
          rw[hex,unwind]
          simp only[hd,hmode,hX,e,doReturn,hf.kind,List.cons_append]
          rfl,fun e he=>mem_seen (by simpa using he)⟩
         exact .inr ⟨_,frs,u1,s1.2.1,hl _ (finish_fn _ _).1 (finish_fn _ _).2,go _ g2 m1,.inr ⟨go _ g1 m2,hcf.finish v,hfs',.inl (goR m3)⟩⟩
       | halt h u1=>
         rw[hrun]at e1
         cases hrt:(results fn fr.tmps).runT (ofF P (maskF P E)) u #[]with
         | mk r es2=>
           rw[hrt]at e1
           simp only at e1
           subst e1
           refine lost_of fun cs=>?_
           rw[hex,unwind]
           simp only[hd,hmode,g2,hrt]
           cases h <;> exact⟨_,_,_,rfl⟩
theorem Alike.self(hA:Alike P F E D):Alike P P.funcs E D:=by
 obtain⟨fn,c,c',kk,e1,e2,e3,e4⟩:=hA.real
 exact⟨fun _ _=>rfl,fn,c',c',fn.ntmps,e1,e2,e3,by rw[e1,<-e2]⟩
theorem one_step(hE:Ext P E)(hA:Alike P F E D)(hf:FrOk P E fr)(hfs:∀ x∈frs,FrOk P E x)(hc:CleanH (clL P E) u)(hb:frs=[]->fr.roundOf=none)(hp:fr.mode≠.run->fr.defers=[]->frs≠[]):OneStep P F E D (stp fr frs) (fr :: frs) u:=by
 by_cases hm:fr.mode=.run
 ·exact run_one hE hA hA.self hf hfs hc hb hm
 ·exact unwind_one hA hf hfs hc hm (hp hm)
end
end
section
open Go
def Agree(u:World)(τ:Nat->Question->Nat):Prop:=∀ p,p<u.drawn->τ p=u.tape p
structure Cl(P:Program)(E:List String)(f:FuncId)(fr:Frame)(frs:List Frame)(u:World):Prop where
 ok:FrOk P E fr
 oks:∀ x∈frs,FrOk P E x
 clean:CleanH (clL P E) u
 base:(fr :: frs).getLast?.map (fun b=>(b.fn,b.roundOf))=some (f,none)
inductive Inev(P:Program)(E:List String)(f:FuncId)(Post:Value->World->Prop):Frame->List Frame->World->Prop
 | done {fr:Frame} {u:World} (hc:Cl P E f fr [] u) (hm:fr.mode=.returning) (hd:fr.defers=[]) (fn:Func) (hfn:P.funcs[fr.fn]?=some fn) (τ:Nat->Question->Nat) (hτ:Agree u τ) (v:Value) (hr:(results fn fr.tmps).run (ofF P (maskF P E)) (onT u τ u.drawn)=.ok v (onT u τ u.drawn)) (hp:Post v (onT u τ u.drawn)):Inev P E f Post fr [] u
 | step {fr:Frame} {frs:List Frame} {u:World} (hc:Cl P E f fr frs u) (hp:¬(frs=[]/\fr.mode≠.run/\fr.defers=[]))
    (nx:(Nat->Question->Nat)->Frame×List Frame×World) (h:∀ τ,Agree u τ->Kpt (clL P E) (onT u τ u.drawn) (nx τ).2.2/\CStep (stp fr frs) (ofF P (maskF P E)) (onT u τ u.drawn) (nx τ).1 (nx τ).2.1 (nx τ).2.2) (hi:∀ τ,Agree u τ->Inev P E f Post (nx τ).1 (nx τ).2.1 (nx τ).2.2):Inev P E f Post fr frs u
section
variable {P X:Program} {F:Array Func} {D:FuncId} {E:List String} {f:FuncId} {fr fr1:Frame} {frs frs1:List Frame} {u u1:World} {τ:Nat->Question->Nat}
theorem world_eq{u1 W1:World}{τ:Nat->Question->Nat}{d:Nat}(hs:Sim (fun _=>False) u1 W1)(ho:W1.output=u1.output):onT W1 τ d=onT u1 τ d:=by
 have hh:W1.heap=u1.heap:=Array.ext_getElem? fun k=>hs.same k id
 have hos:=hs.os
 unfold onT
 cases u1
 cases W1
 simp only at hh hos ho
 subst hh hos ho
 rfl
theorem lone_step(hc:CStep (stp fr frs) X (onT u τ u.drawn) fr1 frs1 u1)(hK:u1.output=u.output){τ':Nat->Question->Nat}(hτ:∀ p,p<u1.drawn->τ' p=τ p)(cs:List Frame):
  step X (lone fr (frs ++ cs) (onT u τ' u.drawn))=.next (lone fr1 (frs1 ++ cs) (onT u1 τ' u1.drawn)):=by
 obtain⟨n,hd,h⟩:=hc
 have hd:u1.drawn=u.drawn+n:=hd
 obtain⟨W1,es,e,hS,ho,hu,_⟩:=h cs (fun _=>False) (onT u τ u.drawn) τ' u.drawn (Sim.refl _) fun i hi q=>by rw[hτ _ (by omega)];rfl
 have hw:onT W1 τ' (u.drawn+n)=onT u1 τ' u1.drawn:=by rw[hd];exact world_eq hS (hu.trans (by rw[hK];rfl))
 rw[hw]at e
 refine step_lone_go ?_
 have e:stepG X true {frame:=fr,callers:=frs ++ cs,status:=.running,dying:=none} (onT u τ' u.drawn)=_:=e
 rw[e]
 rfl
def doorC(P:Program)(R:String):Frame:={fn:=P.funcs.size,tmps:=#[],todo:=[.call {target:=.nil,args:=#[]} false R #[]],defers:=[],mode:=.run,kind:=.normal}
inductive Path(P:Program)(E:List String)(G:Frame->List Frame->World->Prop)(a0:Frame)(u0:World):Nat->Frame->List Frame->World->Prop
 | refl (h:G a0 [] u0):Path P E G a0 u0 0 a0 [] u0
 | step {k:Nat} {fr:Frame} {frs:List Frame} {u:World} {τ:Nat->Question->Nat} {fr1:Frame} {frs1:List Frame} {u1:World} (h:Path P E G a0 u0 k fr frs u) (hτ:Agree u τ) (hK:Kpt (clL P E) (onT u τ u.drawn) u1) (hc:CStep (stp fr frs) (ofF P (maskF P E)) (onT u τ u.drawn) fr1 frs1 u1) (hG:G fr1 frs1 u1):Path P E G a0 u0 (k+1) fr1 frs1 u1
theorem CStep.drawn{ST:Stp}(hc:CStep ST X u fr1 frs1 u1):u.drawn<=u1.drawn:=by
 obtain⟨n,h,_⟩:=hc
 omega
theorem Path.good{G:Frame->List Frame->World->Prop}{a0:Frame}{u0:World}{k:Nat}(h:Path P E G a0 u0 k fr frs u):G fr frs u:=by cases h <;> assumption
theorem Path.prefix_{G:Frame->List Frame->World->Prop}{a0:Frame}{u0:World}{k:Nat}(h:Path P E G a0 u0 k fr frs u):∀ n,n<=k->∃ fr' frs' u',Path P E G a0 u0 n fr' frs' u'/\∀ τ,Agree u τ->Agree u' τ:=by
 induction h with
 | refl h=>
   intro n hn
   obtain rfl:n=0:=by omega
   exact⟨_,_,_,.refl h,fun _ x=>x⟩
 | @step k fr frs u τ fr1 frs1 u1 h hτ hK hc hG ih=>
   intro n hn
   by_cases e:n=k+1
   ·subst e
    exact⟨_,_,_,.step h hτ hK hc hG,fun _ x=>x⟩
   ·obtain⟨fr',frs',u',h1,h2⟩:=ih n (by omega)
    refine⟨fr',frs',u',h1,fun τ' h'=>h2 τ' fun p hp=>?_⟩
    have hd:u.drawn<=u1.drawn:=hc.drawn
    rw[h' p (by omega),hK.tape]
    exact hτ p hp
theorem Path.runs{G:Frame->List Frame->World->Prop}{a0:Frame}{u0:World}{k:Nat}(h:Path P E G a0 u0 k fr frs u)(cs:List Frame):∀ τ,Agree u τ->runN (ofF P (maskF P E)) k (lone a0 cs (onT u0 τ u0.drawn))=.next (lone fr (frs ++ cs) (onT u τ u.drawn)):=by
 induction h with
 | refl h=>exact fun τ _=>rfl
 | @step k fr frs u τ fr1 frs1 u1 h hτ hK hc hG ih=>
   intro τ' h'
   have hd:u.drawn<=u1.drawn:=hc.drawn
   have hA:Agree u τ':=fun p hp=>by rw[h' p (by omega),hK.tape];exact hτ p hp
   rw[runN_add,ih τ' hA]
   have:=lone_step hc hK.output (τ':=τ') (fun p hp=>by rw[h' p hp,hK.tape];rfl) cs
   simp only[runN,this]
theorem lone_inj{a b:Frame}{cs ds:List Frame}{w v:World}(h:lone a cs w=lone b ds v):a=b/\cs=ds/\w=v:=by
 unfold lone at h
 injection h with h1 h2 h3
 have h4:=congrArg (fun x:Array Goroutine=>x[0]?) h2
 simp only[List.getElem?_toArray,List.getElem?_cons_zero,Option.some.injEq,Goroutine.mk.injEq]at h4
 exact⟨h4.1,h4.2.1,h1⟩
theorem not_at{Post:Value->World->Prop}{a0 c1 fr':Frame}{u0 w':World}{n:Nat}(h:Path P E (fun fr frs u=>Cl P E f fr frs u/\¬Inev P E f Post fr frs u) a0 u0 n fr frs u)(hτ:Agree u τ)
  (hr:runN (ofF P (maskF P E)) n (lone a0 [c1] (onT u0 τ u0.drawn))=.next (lone fr' [c1] w')) {v:Value} (hl:fr'.leaving (ofF P (maskF P E)) w' (.returned v)) (hp:Post v w'):False:=by
 have e:=h.runs [c1] τ hτ
 rw[e]at hr
 obtain⟨rfl,e2,rfl⟩:=lone_inj (Stepped.next.inj hr)
 have hfrs:frs=[]:=by
  have:=congrArg List.length e2
  simp at this
  exact this
 subst hfrs
 obtain⟨hc,hn⟩:=h.good
 obtain⟨hm,hd,_,fn,hfn,hres⟩:=hl
 obtain⟨fn',g1,g2⟩:=same_fn hc.ok
 rw[g2]at hfn
 obtain rfl:=Option.some.inj hfn
 exact hn (.done hc hm hd _ g1 τ hτ v hres hp)
def Term(P:Program)(E:List String)(c1 fr:Frame)(frs:List Frame)(u:World):Prop:=
 ∃ τ,Agree u τ/\∀ m fr' w',runN (ofF P (maskF P E)) m (lone fr (frs ++ [c1]) (onT u τ u.drawn))=.next (lone fr' [c1] w')->fr'.mode=.returning->m=0
theorem step_ended{fr:Frame}{cs:List Frame}{w:World}{o:Outcome}{w':World}{es:Array Event}(h:stepG X true (mkG fr cs) w=.ended o w' es):step X (lone fr cs w)=.ended o w':=by
 refine step_lone_ended ?_
 have h:stepG X true {frame:=fr,callers:=cs,status:=.running,dying:=none} w=_:=h
 rw[h]
 rfl
theorem runN_ended{m:Machine}{o:Outcome}{w:World}(h:step X m=.ended o w):∀ n m',runN X n m=.next m'->n=0
 | 0,_,_=>rfl
 | n+1,m',hr=>by simp[runN,h]at hr
theorem term_lost{c1:Frame}(hτ:Agree u τ)(h:Lost (stp fr frs) (ofF P (maskF P E)) (onT u τ u.drawn)):Term P E c1 fr frs u:=by
 refine⟨τ,hτ,fun m fr' w' hr _=>?_⟩
 obtain⟨o,w,es,e⟩:=h [c1]
 exact runN_ended (step_ended e) m _ hr
theorem term_bad{c1:Frame}(hτ:Agree u τ){g:FuncId}{args:Array Value}{fn:Func}(hg:P.funcs[g]?=some fn)(hk:okFunc P E fn=false)(hK:Kpt (clL P E) (onT u τ u.drawn) u1)(hc:CStep (stp fr frs) (ofF P (maskF P E)) (onT u τ u.drawn) (Frame.enter (ofF P (maskF P E)) g args .normal) frs1 u1):Term P E c1 fr frs u:=by
 have hd:u.drawn<=u1.drawn:=hc.drawn
 refine⟨τ,hτ,fun m fr' w' hr hm=>?_⟩
 have h1:=lone_step hc hK.output (τ':=τ) (fun p _=>rfl) [c1]
 have hm1:(ofF P (maskF P E)).funcs[g]?=_:=maskF_get (P:=P) (E:=E) g
 rw[hg,Option.map_some,if_neg (by simp[hk])]at hm1
 cases m with
 | zero=>rfl
 | succ m=>
   exfalso
   simp only[runN,h1]at hr
   cases m with
   | zero=>
     obtain⟨e,_,_⟩:=lone_inj (Stepped.next.inj hr)
     rw[<-e]at hm
     cases hm
   | succ m=>
     obtain⟨r,he⟩:∃ r,stepG (ofF P (maskF P E)) true (mkG (Frame.enter (ofF P (maskF P E)) g args .normal) (frs1 ++ [c1])) (onT u1 τ u1.drawn)=.ended r (onT u1 τ u1.drawn) #[]:=by
      have ht:(Frame.enter (ofF P (maskF P E)) g args .normal).todo=[.code (.refuse "")]:=by
       simp only[Frame.enter,hm1]
       rfl
      have h0:=exec_stp (fr:=Frame.enter (ofF P (maskF P E)) g args .normal) (frs:=frs1) rfl (ofF P (maskF P E)) [c1] (onT u1 τ u1.drawn)
      rw[stepG.exec]at h0
      simp only[ht]at h0
      exact⟨_,h0⟩
     have:=runN_ended (step_ended he) _ _ hr
     cases this
theorem step_go'{fr fr1:Frame}{cs cs1:List Frame}{w w1:World}{es:Array Event}(h:stepG X true (mkG fr cs) w=.go (mkG fr1 cs1) w1 es):step X (lone fr cs w)=.next (lone fr1 cs1 w1):=by
 refine step_lone_go ?_
 have h:stepG X true {frame:=fr,callers:=cs,status:=.running,dying:=none} w=_:=h
 rw[h]
 rfl
theorem two_steps{fr fr1:Frame}{c1:Frame}{cs:List Frame}{w w1:World}(h1:step X (lone fr cs w)=.next (lone fr1 [] w1))(h2:∃ o w',step X (lone fr1 [] w1)=.ended o w')(m:Nat)(fr':Frame)(w':World)(hr:runN X m (lone fr cs w)=.next (lone fr' [c1] w')):m=0:=by
 cases m with
 | zero=>rfl
 | succ m=>
   exfalso
   simp only[runN,h1]at hr
   obtain⟨o,w2,h2⟩:=h2
   obtain rfl:=runN_ended h2 m _ hr
   obtain⟨_,e,_⟩:=lone_inj (Stepped.next.inj hr)
   cases e
theorem term_pop{R:String}(hR:Extern.next R=none)(hR2:R.startsWith "fmt's door" =true)(hf:FrOk P E fr)(hm:fr.mode≠.run)(hd:fr.defers=[]):Term P E (doorC P R) fr [] u:=by
 refine⟨u.tape,fun _ _=>rfl,fun m fr' w' hr _=>?_⟩
 obtain⟨fn,_,g2⟩:=same_fn hf
 have hno:(ofF P (maskF P E)).funcs[P.funcs.size]?=none:=by
  show (maskF P E)[P.funcs.size]?=none
  rw[maskF_get]
  simp
 have hex:∀ w,stepG (ofF P (maskF P E)) true (mkG fr [doorC P R]) w=unwind (ofF P (maskF P E)) true fr [doorC P R] none w:=fun w=>unwind_stp (frs:=[]) hm (ofF P (maskF P E)) [doorC P R] w
 cases hmode:fr.mode with
 | run=>exact absurd hmode hm
 | panicking chain=>
   have h1:stepG (ofF P (maskF P E)) true (mkG fr [doorC P R]) (onT u u.tape u.drawn)=.go (mkG ((doorC P R).raise chain) []) (onT u u.tape u.drawn) #[]:=by
    rw[hex,unwind]
    simp only[hd,hmode,Frame.catches,g2]
    rfl
   refine two_steps (step_go' h1) ?_ m fr' w' hr
   have h2:∃ o w2 es2,stepG (ofF P (maskF P E)) true (mkG ((doorC P R).raise chain) []) (onT u u.tape u.drawn)=.ended o w2 es2:=by
    have hmd:((doorC P R).raise chain).mode≠.run:=by simp[doorC,Frame.raise]
    have e:stepG (ofF P (maskF P E)) true (mkG ((doorC P R).raise chain) []) (onT u u.tape u.drawn)=_:=unwind_stp (fr:=(doorC P R).raise chain) (frs:=[]) hmd (ofF P (maskF P E)) [] (onT u u.tape u.drawn)
    rw[e,unwind]
    simp only[doorC,Frame.raise,Frame.catches,hno,hR2]
    exact⟨_,_,_,rfl⟩
   obtain⟨o,w2,es2,h2⟩:=h2
   exact⟨o,w2,step_ended h2⟩
 | returning=>
   cases hrt:(results fn fr.tmps).runT (ofF P (maskF P E)) (onT u u.tape u.drawn) #[]with
   | mk r es=>
     cases r with
     | ok v w1=>
       have h1:stepG (ofF P (maskF P E)) true (mkG fr [doorC P R]) (onT u u.tape u.drawn)=.go (mkG ((doorC P R).finish v) []) w1 (seen (ofF P (maskF P E)) fr.fn es ++ #[]):=by
        rw[hex,unwind]
        simp only[hd,hmode,g2,hrt,doReturn,hf.kind]
        rfl
       refine two_steps (step_go' h1) ?_ m fr' w' hr
       have h2:∃ o w2 es2,stepG (ofF P (maskF P E)) true (mkG ((doorC P R).finish v) []) w1=.ended o w2 es2:=by
        have:=exec_stp (fr:=(doorC P R).finish v) (frs:=[]) (by rfl) (ofF P (maskF P E)) [] w1
        have e:stepG (ofF P (maskF P E)) true (mkG ((doorC P R).finish v) []) w1=_:=this
        rw[e,stepG.exec]
        simp only[doorC,Frame.finish,hR]
        exact⟨_,_,_,rfl⟩
       obtain⟨o,w2,es2,h2⟩:=h2
       exact⟨o,w2,step_ended h2⟩
     | halt h w1=>
       have h1:∃ o w2 es2,stepG (ofF P (maskF P E)) true (mkG fr [doorC P R]) (onT u u.tape u.drawn)=.ended o w2 es2:=by
        rw[hex,unwind]
        simp only[hd,hmode,g2,hrt]
        cases h <;> exact⟨_,_,_,rfl⟩
       obtain⟨o,w2,es2,h1⟩:=h1
       exact runN_ended (step_ended h1) m _ hr
theorem adv{R:String}{Post:Value->World->Prop}(hE:Ext P E)(hA:Alike P F E D)(hR:Extern.next R=none)(hR2:R.startsWith "fmt's door" =true)(hc:Cl P E f fr frs u)(hn:¬Inev P E f Post fr frs u):
  Term P E (doorC P R) fr frs u\/∃ τ fr1 frs1 u1,Agree u τ/\Kpt (clL P E) (onT u τ u.drawn) u1/\CStep (stp fr frs) (ofF P (maskF P E)) (onT u τ u.drawn) fr1 frs1 u1/\Cl P E f fr1 frs1 u1/\¬Inev P E f Post fr1 frs1 u1:=by
 by_cases hpop:frs=[]/\fr.mode≠.run/\fr.defers=[]
 ·obtain⟨rfl,hm,hd⟩:=hpop
  exact .inl (term_pop hR hR2 hc.ok hm hd)
 refine Classical.byContradiction fun hno=>hn ?_
 have hT:¬Term P E (doorC P R) fr frs u:=fun h=>hno (.inl h)
 have hA:∀ τ,Agree u τ->∃ x:Frame×List Frame×World,(Kpt (clL P E) (onT u τ u.drawn) x.2.2/\CStep (stp fr frs) (ofF P (maskF P E)) (onT u τ u.drawn) x.1 x.2.1 x.2.2)/\Inev P E f Post x.1 x.2.1 x.2.2:=fun τ hτ=>by
  have hb:frs=[]->fr.roundOf=none:=fun e=>by
   have:=hc.base
   subst e
   simp at this
   exact this.2
  rcases one_step (u:=onT u τ u.drawn) hE hA hc.ok hc.oks hc.clean hb (fun hm hd e=>hpop ⟨e,hm,hd⟩)with hl |⟨fr1,frs1,u1,hK,hla,c1,hrest⟩
  ·exact absurd (term_lost hτ hl) hT
  ·rcases hrest with ⟨g,args,rfl,fn,hg,hk⟩ |⟨_,ho,hos,_⟩
   ·exact absurd (term_bad hτ hg hk hK c1) hT
   ·have hcl:Cl P E f fr1 frs1 u1:=⟨ho,hos,hK.clean,Eq.trans hla hc.base⟩
    refine⟨⟨fr1,frs1,u1⟩,⟨hK,c1⟩,Classical.byContradiction fun hni=>hno (.inr ⟨τ,fr1,frs1,u1,hτ,hK,c1,hcl,hni⟩)⟩
 have hA2:∀ τ,∃ x:Frame×List Frame×World,Agree u τ->(Kpt (clL P E) (onT u τ u.drawn) x.2.2/\CStep (stp fr frs) (ofF P (maskF P E)) (onT u τ u.drawn) x.1 x.2.1 x.2.2)/\Inev P E f Post x.1 x.2.1 x.2.2:=fun τ=>by
  by_cases hτ:Agree u τ
  ·obtain⟨x,hx⟩:=hA τ hτ
   exact⟨x,fun _=>hx⟩
  ·exact⟨⟨fr,frs,u⟩,fun h=>absurd h hτ⟩
 exact .step hc hpop (fun τ=>Classical.choose (hA2 τ)) (fun τ hτ=>(Classical.choose_spec (hA2 τ) hτ).1) fun τ hτ=>(Classical.choose_spec (hA2 τ) hτ).2
theorem Path.agree0{G:Frame->List Frame->World->Prop}{a0:Frame}{u0:World}{k:Nat}(h:Path P E G a0 u0 k fr frs u):∀ τ,Agree u τ->Agree u0 τ:=by
 induction h with
 | refl h=>exact fun _ x=>x
 | @step k fr frs u τ fr1 frs1 u1 h hτ hK hc hG ih=>
   intro τ' h'
   have hd:u.drawn<=u1.drawn:=hc.drawn
   exact ih τ' fun p hp=>by rw[h' p (by omega),hK.tape];exact hτ p hp
theorem inevitable{R:String}{Post:Value->World->Prop}(hE:Ext P E)(hA:Alike P F E D)(hR:Extern.next R=none)(hR2:R.startsWith "fmt's door" =true){u0:World}{args:Array Value}{fn0:Func}(hf0:P.funcs[f]?=some fn0)(hk0:okFunc P E fn0=true)(hc0:CleanH (clL P E) u0)
  (hC:∀ τ,Agree u0 τ->Calls (ofF P (maskF P E)) f args (onT u0 τ u0.drawn) fun e w=>∃ v,e=.returned v/\Post v w):Inev P E f Post (Frame.enter P f args .normal) [] u0:=by
 refine Classical.byContradiction fun hI=>?_
 obtain⟨G,hG⟩:∃ G:Frame->List Frame->World->Prop,G=fun fr frs u=>Cl P E f fr frs u/\¬Inev P E f Post fr frs u:=⟨_,rfl⟩
 obtain⟨a0,ha0⟩:∃ a0,a0=Frame.enter P f args .normal:=⟨_,rfl⟩
 have hG0:G a0 [] u0:=by
  rw[hG,ha0]
  exact⟨⟨FrOk.enter hf0 hk0 args,(fun x hx=>by cases hx),hc0,by simp[Frame.enter]⟩,hI⟩
 have arrival:∀ τ,Agree u0 τ->∃ n fr' w' v,runN (ofF P (maskF P E)) n (lone a0 [doorC P R] (onT u0 τ u0.drawn))=.next (lone fr' [doorC P R] w')/\fr'.leaving (ofF P (maskF P E)) w' (.returned v)/\Post v w':=fun τ hτ=>by
  obtain⟨e,w',fr',⟨v,rfl,hp⟩,⟨n,hn⟩,_,hl⟩:=hC τ hτ [doorC P R]
  rw[enter_eq hf0 hk0,<-ha0]at hn
  exact⟨n,fr',w',v,hn,hl,hp⟩
 have hit:∀ n fr frs u τ,Path P E G a0 u0 n fr frs u->Agree u τ->∀ fr' w' v,runN (ofF P (maskF P E)) n (lone a0 [doorC P R] (onT u0 τ u0.drawn))=.next (lone fr' [doorC P R] w')->fr'.leaving (ofF P (maskF P E)) w' (.returned v)->Post v w'->False:=fun n fr frs u τ hP hτ fr' w' v hr hl hp=>by
  rw[hG]at hP
  exact not_at hP hτ hr hl hp
 have noTerm:∀ k fr frs u,Path P E G a0 u0 k fr frs u->¬Term P E (doorC P R) fr frs u:=fun k fr frs u hP ⟨τ,hτ,ht⟩=>by
  obtain⟨n,fr',w',v,hr,hl,hp⟩:=arrival τ (hP.agree0 τ hτ)
  by_cases hn:n<=k
  ·obtain⟨fr2,frs2,u2,hP2,h2⟩:=hP.prefix_ n hn
   exact hit n fr2 frs2 u2 τ hP2 (h2 τ hτ) fr' w' v hr hl hp
  ·obtain⟨m,rfl⟩:∃ m,n=k+(m+1):=⟨n - k - 1,by omega⟩
   rw[runN_add,hP.runs [doorC P R] τ hτ]at hr
   have:=ht (m+1) fr' w' hr hl.1
   omega
 have nxt:∀ k (x:Frame×List Frame×World),Path P E G a0 u0 k x.1 x.2.1 x.2.2->∃ y:Frame×List Frame×World,Path P E G a0 u0 (k+1) y.1 y.2.1 y.2.2/\(∀ p,p<x.2.2.drawn->y.2.2.tape p=x.2.2.tape p)/\x.2.2.drawn<=y.2.2.drawn:=fun k x hP=>by
  have hg:=hP.good
  rw[hG]at hg
  rcases adv (R:=R) hE hA hR hR2 hg.1 hg.2 with hT |⟨τ,fr1,frs1,u1,hτ,hK,hc,h1,h2⟩
  ·exact absurd hT (noTerm _ _ _ _ hP)
  ·refine⟨⟨fr1,frs1,u1⟩,.step hP hτ hK hc (by rw[hG];exact⟨h1,h2⟩),fun p hp=>?_,?_⟩
   ·show u1.tape p=_
    rw[hK.tape]
    exact hτ p hp
   ·exact hc.drawn
 obtain⟨σ,hσ0,hσ⟩:∃ σ:(k:Nat)->{x:Frame×List Frame×World // Path P E G a0 u0 k x.1 x.2.1 x.2.2},(σ 0).1=(a0,[],u0)/\∀ k,(∀ p,p<(σ k).1.2.2.drawn->(σ (k+1)).1.2.2.tape p=(σ k).1.2.2.tape p)/\(σ k).1.2.2.drawn<=(σ (k+1)).1.2.2.drawn:=
  by
  let σ:(k:Nat)->{x:Frame×List Frame×World // Path P E G a0 u0 k x.1 x.2.1 x.2.2}:=fun k=>Nat.rec (motive:=fun k=>{x:Frame×List Frame×World // Path P E G a0 u0 k x.1 x.2.1 x.2.2}) ⟨(a0,[],u0),.refl hG0⟩ (fun k x=>⟨Classical.choose (nxt k x.1 x.2),(Classical.choose_spec (nxt k x.1 x.2)).1⟩) k
  exact⟨σ,rfl,fun k=>(Classical.choose_spec (nxt k (σ k).1 (σ k).2)).2⟩
 have mono:∀ j d,(σ j).1.2.2.drawn<=(σ (j+d)).1.2.2.drawn/\∀ p,p<(σ j).1.2.2.drawn->(σ (j+d)).1.2.2.tape p=(σ j).1.2.2.tape p:=by
  intro j d
  induction d with
  | zero=>exact ⟨Nat.le_refl _,fun _ _=>rfl⟩
  | succ d ih=>
    have h:=hσ (j+d)
    refine⟨Nat.le_trans ih.1 h.2,fun p hp=>?_⟩
    rw[<-ih.2 p hp]
    exact h.1 p (Nat.lt_of_lt_of_le hp ih.1)
 have coh:∀ j k p,p<(σ j).1.2.2.drawn->p<(σ k).1.2.2.drawn->(σ j).1.2.2.tape p=(σ k).1.2.2.tape p:=fun j k p hj hk=>by
  rcases Nat.le_total j k with h | h
  ·obtain⟨d,rfl⟩:=Nat.exists_eq_add_of_le h
   exact ((mono j d).2 p hj).symm
  ·obtain⟨d,rfl⟩:=Nat.exists_eq_add_of_le h
   exact (mono k d).2 p hk
 obtain⟨τ,hτ⟩:∃ τ:Nat->Question->Nat,∀ k,Agree (σ k).1.2.2 τ:=by
  classical
  refine⟨fun p=>if h:∃ k,p<(σ k).1.2.2.drawn then (σ (Classical.choose h)).1.2.2.tape p else u0.tape p,fun k p hp=>?_⟩
  have h:∃ k,p<(σ k).1.2.2.drawn:=⟨k,hp⟩
  simp only[dif_pos h]
  exact coh _ _ p (Classical.choose_spec h) hp
 obtain⟨n,fr',w',v,hr,hl,hp⟩:=arrival τ (by have:=hτ 0;rw[hσ0]at this;exact this)
 exact hit n _ _ _ τ (σ n).2 (hτ n) fr' w' v hr hl hp
end
end
end Go.Proofs.YticobikhndlejaaGreatDoor
