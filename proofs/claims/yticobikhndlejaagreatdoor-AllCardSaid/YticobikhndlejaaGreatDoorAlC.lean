/- Part 3 of the proof (see the last part). -/
import Derived.Test.YticobikhndlejaaGreatDoorAlB
import Derived.Conc.Token
import Derived.Orders
namespace Go.Proofs.YticobikhndlejaaGreatDoor
section
open Go
def Agree(u:World)(τ:Nat->Question->Nat):Prop:=∀ p,p<u.drawn->τ p=u.tape p
structure Cl(P:Program)(E:List String)(f:FuncId)(fr:Frame)(frs:List Frame)(u:World):Prop where
 ok:FrOk P E fr
 oks:∀ x∈frs,FrOk P E x
 clean:CleanH (clL P E) u
 base:(fr :: frs).getLast?.map (fun b=>(b.fn,b.roundOf))=some (f,none)
inductive Inev(P:Program)(E:List String)(f:FuncId)(Post:Value->World->Prop):Frame->List Frame->World->Prop
 | done {fr:Frame} {u:World} (hc:Cl P E f fr [] u) (hm:fr.mode=.returning) (hd:fr.defers=[]) (fn:Func) (hfn:P.funcs[fr.fn]?=some fn) (τ:Nat->Question->Nat) (hτ:Agree u τ) (v:Value) (hr:(results fn fr.tmps).run (ofF P (maskF P E)) (onT u τ u.drawn)=.ok v (onT u τ u.drawn)) (hp:Post v (onT u τ u.drawn)):Inev P E f Post fr [] u
 | step {fr:Frame} {frs:List Frame} {u:World} (hc:Cl P E f fr frs u) (hp:¬(frs=[]/\fr.mode≠.run/\fr.defers=[]))
    (nx:(Nat->Question->Nat)->Frame×List Frame×World) (h:∀ τ,Agree u τ->Kpt (clL P E) (onT u τ u.drawn) (nx τ).2.2/\CStep (stp fr frs) (ofF P (maskF P E)) (onT u τ u.drawn) (nx τ).1 (nx τ).2.1 (nx τ).2.2) (hi:∀ τ,Agree u τ->Inev P E f Post (nx τ).1 (nx τ).2.1 (nx τ).2.2):Inev P E f Post fr frs u
section
variable {P X:Program} {F:Array Func} {D:FuncId} {E:List String} {f:FuncId} {fr fr1:Frame} {frs frs1:List Frame} {u u1:World} {τ:Nat->Question->Nat}
theorem world_eq{u1 W1:World}{τ:Nat->Question->Nat}{d:Nat}(hs:Sim (fun _=>False) u1 W1)(ho:W1.output=u1.output):onT W1 τ d=onT u1 τ d:=by
 have hh:W1.heap=u1.heap:=Array.ext_getElem? fun k=>hs.same k id
 have hos:=hs.os
 unfold onT
 cases u1
 cases W1
 simp only at hh hos ho
 subst hh hos ho
 rfl
theorem lone_step(hc:CStep (stp fr frs) X (onT u τ u.drawn) fr1 frs1 u1)(hK:u1.output=u.output){τ':Nat->Question->Nat}(hτ:∀ p,p<u1.drawn->τ' p=τ p)(cs:List Frame):
  step X (lone fr (frs ++ cs) (onT u τ' u.drawn))=.next (lone fr1 (frs1 ++ cs) (onT u1 τ' u1.drawn)):=by
 obtain⟨n,hd,h⟩:=hc
 have hd:u1.drawn=u.drawn+n:=hd
 obtain⟨W1,es,e,hS,ho,hu,_⟩:=h cs (fun _=>False) (onT u τ u.drawn) τ' u.drawn (Sim.refl _) fun i hi q=>by rw[hτ _ (by omega)];rfl
 have hw:onT W1 τ' (u.drawn+n)=onT u1 τ' u1.drawn:=by rw[hd];exact world_eq hS (hu.trans (by rw[hK];rfl))
 rw[hw]at e
 refine step_lone_go ?_
 have e:stepG X true {frame:=fr,callers:=frs ++ cs,status:=.running,dying:=none} (onT u τ' u.drawn)=_:=e
 rw[e]
 rfl
def doorC(P:Program)(R:String):Frame:={fn:=P.funcs.size,tmps:=#[],todo:=[.call {target:=.nil,args:=#[]} false R #[]],defers:=[],mode:=.run,kind:=.normal}
inductive Path(P:Program)(E:List String)(G:Frame->List Frame->World->Prop)(a0:Frame)(u0:World):Nat->Frame->List Frame->World->Prop
 | refl (h:G a0 [] u0):Path P E G a0 u0 0 a0 [] u0
 | step {k:Nat} {fr:Frame} {frs:List Frame} {u:World} {τ:Nat->Question->Nat} {fr1:Frame} {frs1:List Frame} {u1:World} (h:Path P E G a0 u0 k fr frs u) (hτ:Agree u τ) (hK:Kpt (clL P E) (onT u τ u.drawn) u1) (hc:CStep (stp fr frs) (ofF P (maskF P E)) (onT u τ u.drawn) fr1 frs1 u1) (hG:G fr1 frs1 u1):Path P E G a0 u0 (k+1) fr1 frs1 u1
theorem CStep.drawn{ST:Stp}(hc:CStep ST X u fr1 frs1 u1):u.drawn<=u1.drawn:=by
 obtain⟨n,h,_⟩:=hc
 omega
theorem Path.good{G:Frame->List Frame->World->Prop}{a0:Frame}{u0:World}{k:Nat}(h:Path P E G a0 u0 k fr frs u):G fr frs u:=by cases h <;> assumption
theorem Path.prefix_{G:Frame->List Frame->World->Prop}{a0:Frame}{u0:World}{k:Nat}(h:Path P E G a0 u0 k fr frs u):∀ n,n<=k->∃ fr' frs' u',Path P E G a0 u0 n fr' frs' u'/\∀ τ,Agree u τ->Agree u' τ:=by
 induction h with
 | refl h=>
   intro n hn
   obtain rfl:n=0:=by omega
   exact⟨_,_,_,.refl h,fun _ x=>x⟩
 | @step k fr frs u τ fr1 frs1 u1 h hτ hK hc hG ih=>
   intro n hn
   by_cases e:n=k+1
   ·subst e
    exact⟨_,_,_,.step h hτ hK hc hG,fun _ x=>x⟩
   ·obtain⟨fr',frs',u',h1,h2⟩:=ih n (by omega)
    refine⟨fr',frs',u',h1,fun τ' h'=>h2 τ' fun p hp=>?_⟩
    have hd:u.drawn<=u1.drawn:=hc.drawn
    rw[h' p (by omega),hK.tape]
    exact hτ p hp
theorem Path.runs{G:Frame->List Frame->World->Prop}{a0:Frame}{u0:World}{k:Nat}(h:Path P E G a0 u0 k fr frs u)(cs:List Frame):∀ τ,Agree u τ->runN (ofF P (maskF P E)) k (lone a0 cs (onT u0 τ u0.drawn))=.next (lone fr (frs ++ cs) (onT u τ u.drawn)):=by
 induction h with
 | refl h=>exact fun τ _=>rfl
 | @step k fr frs u τ fr1 frs1 u1 h hτ hK hc hG ih=>
   intro τ' h'
   have hd:u.drawn<=u1.drawn:=hc.drawn
   have hA:Agree u τ':=fun p hp=>by rw[h' p (by omega),hK.tape];exact hτ p hp
   rw[runN_add,ih τ' hA]
   have:=lone_step hc hK.output (τ':=τ') (fun p hp=>by rw[h' p hp,hK.tape];rfl) cs
   simp only[runN,this]
theorem lone_inj{a b:Frame}{cs ds:List Frame}{w v:World}(h:lone a cs w=lone b ds v):a=b/\cs=ds/\w=v:=by
 unfold lone at h
 injection h with h1 h2 h3
 have h4:=congrArg (fun x:Array Goroutine=>x[0]?) h2
 simp only[List.getElem?_toArray,List.getElem?_cons_zero,Option.some.injEq,Goroutine.mk.injEq]at h4
 exact⟨h4.1,h4.2.1,h1⟩
theorem not_at{Post:Value->World->Prop}{a0 c1 fr':Frame}{u0 w':World}{n:Nat}(h:Path P E (fun fr frs u=>Cl P E f fr frs u/\¬Inev P E f Post fr frs u) a0 u0 n fr frs u)(hτ:Agree u τ)
  (hr:runN (ofF P (maskF P E)) n (lone a0 [c1] (onT u0 τ u0.drawn))=.next (lone fr' [c1] w')) {v:Value} (hl:fr'.leaving (ofF P (maskF P E)) w' (.returned v)) (hp:Post v w'):False:=by
 have e:=h.runs [c1] τ hτ
 rw[e]at hr
 obtain⟨rfl,e2,rfl⟩:=lone_inj (Stepped.next.inj hr)
 have hfrs:frs=[]:=by
  have:=congrArg List.length e2
  simp at this
  exact this
 subst hfrs
 obtain⟨hc,hn⟩:=h.good
 obtain⟨hm,hd,_,fn,hfn,hres⟩:=hl
 obtain⟨fn',g1,g2⟩:=same_fn hc.ok
 rw[g2]at hfn
 obtain rfl:=Option.some.inj hfn
 exact hn (.done hc hm hd _ g1 τ hτ v hres hp)
def Term(P:Program)(E:List String)(c1 fr:Frame)(frs:List Frame)(u:World):Prop:=
 ∃ τ,Agree u τ/\∀ m fr' w',runN (ofF P (maskF P E)) m (lone fr (frs ++ [c1]) (onT u τ u.drawn))=.next (lone fr' [c1] w')->fr'.mode=.returning->m=0
theorem step_ended{fr:Frame}{cs:List Frame}{w:World}{o:Outcome}{w':World}{es:Array Event}(h:stepG X true (mkG fr cs) w=.ended o w' es):step X (lone fr cs w)=.ended o w':=by
 refine step_lone_ended ?_
 have h:stepG X true {frame:=fr,callers:=cs,status:=.running,dying:=none} w=_:=h
 rw[h]
 rfl
theorem runN_ended{m:Machine}{o:Outcome}{w:World}(h:step X m=.ended o w):∀ n m',runN X n m=.next m'->n=0
 | 0,_,_=>rfl
 | n+1,m',hr=>by simp[runN,h]at hr
theorem term_lost{c1:Frame}(hτ:Agree u τ)(h:Lost (stp fr frs) (ofF P (maskF P E)) (onT u τ u.drawn)):Term P E c1 fr frs u:=by
 refine⟨τ,hτ,fun m fr' w' hr _=>?_⟩
 obtain⟨o,w,es,e⟩:=h [c1]
 exact runN_ended (step_ended e) m _ hr
theorem term_bad{c1:Frame}(hτ:Agree u τ){g:FuncId}{args:Array Value}{fn:Func}(hg:P.funcs[g]?=some fn)(hk:okFunc P E fn=false)(hK:Kpt (clL P E) (onT u τ u.drawn) u1)(hc:CStep (stp fr frs) (ofF P (maskF P E)) (onT u τ u.drawn) (Frame.enter (ofF P (maskF P E)) g args .normal) frs1 u1):Term P E c1 fr frs u:=by
 have hd:u.drawn<=u1.drawn:=hc.drawn
 refine⟨τ,hτ,fun m fr' w' hr hm=>?_⟩
 have h1:=lone_step hc hK.output (τ':=τ) (fun p _=>rfl) [c1]
 have hm1:(ofF P (maskF P E)).funcs[g]?=_:=maskF_get (P:=P) (E:=E) g
 rw[hg,Option.map_some,if_neg (by simp[hk])]at hm1
 cases m with
 | zero=>rfl
 | succ m=>
   exfalso
   simp only[runN,h1]at hr
   cases m with
   | zero=>
     obtain⟨e,_,_⟩:=lone_inj (Stepped.next.inj hr)
     rw[<-e]at hm
     cases hm
   | succ m=>
     obtain⟨r,he⟩:∃ r,stepG (ofF P (maskF P E)) true (mkG (Frame.enter (ofF P (maskF P E)) g args .normal) (frs1 ++ [c1])) (onT u1 τ u1.drawn)=.ended r (onT u1 τ u1.drawn) #[]:=by
      have ht:(Frame.enter (ofF P (maskF P E)) g args .normal).todo=[.code (.refuse "")]:=by
       simp only[Frame.enter,hm1]
       rfl
      have h0:=exec_stp (fr:=Frame.enter (ofF P (maskF P E)) g args .normal) (frs:=frs1) rfl (ofF P (maskF P E)) [c1] (onT u1 τ u1.drawn)
      rw[stepG.exec]at h0
      simp only[ht]at h0
      exact⟨_,h0⟩
     have:=runN_ended (step_ended he) _ _ hr
     cases this
theorem step_go'{fr fr1:Frame}{cs cs1:List Frame}{w w1:World}{es:Array Event}(h:stepG X true (mkG fr cs) w=.go (mkG fr1 cs1) w1 es):step X (lone fr cs w)=.next (lone fr1 cs1 w1):=by
 refine step_lone_go ?_
 have h:stepG X true {frame:=fr,callers:=cs,status:=.running,dying:=none} w=_:=h
 rw[h]
 rfl
theorem two_steps{fr fr1:Frame}{c1:Frame}{cs:List Frame}{w w1:World}(h1:step X (lone fr cs w)=.next (lone fr1 [] w1))(h2:∃ o w',step X (lone fr1 [] w1)=.ended o w')(m:Nat)(fr':Frame)(w':World)(hr:runN X m (lone fr cs w)=.next (lone fr' [c1] w')):m=0:=by
 cases m with
 | zero=>rfl
 | succ m=>
   exfalso
   simp only[runN,h1]at hr
   obtain⟨o,w2,h2⟩:=h2
   obtain rfl:=runN_ended h2 m _ hr
   obtain⟨_,e,_⟩:=lone_inj (Stepped.next.inj hr)
   cases e
theorem term_pop{R:String}(hR:Extern.next R=none)(hR2:R.startsWith "fmt's door" =true)(hf:FrOk P E fr)(hm:fr.mode≠.run)(hd:fr.defers=[]):Term P E (doorC P R) fr [] u:=by
 refine⟨u.tape,fun _ _=>rfl,fun m fr' w' hr _=>?_⟩
 obtain⟨fn,_,g2⟩:=same_fn hf
 have hno:(ofF P (maskF P E)).funcs[P.funcs.size]?=none:=by
  show (maskF P E)[P.funcs.size]?=none
  rw[maskF_get]
  simp
 have hex:∀ w,stepG (ofF P (maskF P E)) true (mkG fr [doorC P R]) w=unwind (ofF P (maskF P E)) true fr [doorC P R] none w:=fun w=>unwind_stp (frs:=[]) hm (ofF P (maskF P E)) [doorC P R] w
 cases hmode:fr.mode with
 | run=>exact absurd hmode hm
 | panicking chain=>
   have h1:stepG (ofF P (maskF P E)) true (mkG fr [doorC P R]) (onT u u.tape u.drawn)=.go (mkG ((doorC P R).raise chain) []) (onT u u.tape u.drawn) #[]:=by
    rw[hex,unwind]
    simp only[hd,hmode,Frame.catches,g2]
    rfl
   refine two_steps (step_go' h1) ?_ m fr' w' hr
   have h2:∃ o w2 es2,stepG (ofF P (maskF P E)) true (mkG ((doorC P R).raise chain) []) (onT u u.tape u.drawn)=.ended o w2 es2:=by
    have hmd:((doorC P R).raise chain).mode≠.run:=by simp[doorC,Frame.raise]
    have e:stepG (ofF P (maskF P E)) true (mkG ((doorC P R).raise chain) []) (onT u u.tape u.drawn)=_:=unwind_stp (fr:=(doorC P R).raise chain) (frs:=[]) hmd (ofF P (maskF P E)) [] (onT u u.tape u.drawn)
    rw[e,unwind]
    simp only[doorC,Frame.raise,Frame.catches,hno,hR2]
    exact⟨_,_,_,rfl⟩
   obtain⟨o,w2,es2,h2⟩:=h2
   exact⟨o,w2,step_ended h2⟩
 | returning=>
   cases hrt:(results fn fr.tmps).runT (ofF P (maskF P E)) (onT u u.tape u.drawn) #[]with
   | mk r es=>
     cases r with
     | ok v w1=>
       have h1:stepG (ofF P (maskF P E)) true (mkG fr [doorC P R]) (onT u u.tape u.drawn)=.go (mkG ((doorC P R).finish v) []) w1 (seen (ofF P (maskF P E)) fr.fn es ++ #[]):=by
        rw[hex,unwind]
        simp only[hd,hmode,g2,hrt,doReturn,hf.kind]
        rfl
       refine two_steps (step_go' h1) ?_ m fr' w' hr
       have h2:∃ o w2 es2,stepG (ofF P (maskF P E)) true (mkG ((doorC P R).finish v) []) w1=.ended o w2 es2:=by
        have:=exec_stp (fr:=(doorC P R).finish v) (frs:=[]) (by rfl) (ofF P (maskF P E)) [] w1
        have e:stepG (ofF P (maskF P E)) true (mkG ((doorC P R).finish v) []) w1=_:=this
        rw[e,stepG.exec]
        simp only[doorC,Frame.finish,hR]
        exact⟨_,_,_,rfl⟩
       obtain⟨o,w2,es2,h2⟩:=h2
       exact⟨o,w2,step_ended h2⟩
     | halt h w1=>
       have h1:∃ o w2 es2,stepG (ofF P (maskF P E)) true (mkG fr [doorC P R]) (onT u u.tape u.drawn)=.ended o w2 es2:=by
        rw[hex,unwind]
        simp only[hd,hmode,g2,hrt]
        cases h <;> exact⟨_,_,_,rfl⟩
       obtain⟨o,w2,es2,h1⟩:=h1
       exact runN_ended (step_ended h1) m _ hr
theorem adv{R:String}{Post:Value->World->Prop}(hE:Ext P E)(hA:Alike P F E D)(hR:Extern.next R=none)(hR2:R.startsWith "fmt's door" =true)(hc:Cl P E f fr frs u)(hn:¬Inev P E f Post fr frs u):
  Term P E (doorC P R) fr frs u\/∃ τ fr1 frs1 u1,Agree u τ/\Kpt (clL P E) (onT u τ u.drawn) u1/\CStep (stp fr frs) (ofF P (maskF P E)) (onT u τ u.drawn) fr1 frs1 u1/\Cl P E f fr1 frs1 u1/\¬Inev P E f Post fr1 frs1 u1:=by
 by_cases hpop:frs=[]/\fr.mode≠.run/\fr.defers=[]
 ·obtain⟨rfl,hm,hd⟩:=hpop
  exact .inl (term_pop hR hR2 hc.ok hm hd)
 refine Classical.byContradiction fun hno=>hn ?_
 have hT:¬Term P E (doorC P R) fr frs u:=fun h=>hno (.inl h)
 have hA:∀ τ,Agree u τ->∃ x:Frame×List Frame×World,(Kpt (clL P E) (onT u τ u.drawn) x.2.2/\CStep (stp fr frs) (ofF P (maskF P E)) (onT u τ u.drawn) x.1 x.2.1 x.2.2)/\Inev P E f Post x.1 x.2.1 x.2.2:=fun τ hτ=>by
  have hb:frs=[]->fr.roundOf=none:=fun e=>by
   have:=hc.base
   subst e
   simp at this
   exact this.2
  rcases one_step (u:=onT u τ u.drawn) hE hA hc.ok hc.oks hc.clean hb (fun hm hd e=>hpop ⟨e,hm,hd⟩)with hl |⟨fr1,frs1,u1,hK,hla,c1,hrest⟩
  ·exact absurd (term_lost hτ hl) hT
  ·rcases hrest with ⟨g,args,rfl,fn,hg,hk⟩ |⟨_,ho,hos,_⟩
   ·exact absurd (term_bad hτ hg hk hK c1) hT
   ·have hcl:Cl P E f fr1 frs1 u1:=⟨ho,hos,hK.clean,Eq.trans hla hc.base⟩
    refine⟨⟨fr1,frs1,u1⟩,⟨hK,c1⟩,Classical.byContradiction fun hni=>hno (.inr ⟨τ,fr1,frs1,u1,hτ,hK,c1,hcl,hni⟩)⟩
 have hA2:∀ τ,∃ x:Frame×List Frame×World,Agree u τ->(Kpt (clL P E) (onT u τ u.drawn) x.2.2/\CStep (stp fr frs) (ofF P (maskF P E)) (onT u τ u.drawn) x.1 x.2.1 x.2.2)/\Inev P E f Post x.1 x.2.1 x.2.2:=fun τ=>by
  by_cases hτ:Agree u τ
  ·obtain⟨x,hx⟩:=hA τ hτ
   exact⟨x,fun _=>hx⟩
  ·exact⟨⟨fr,frs,u⟩,fun h=>absurd h hτ⟩
 exact .step hc hpop (fun τ=>Classical.choose (hA2 τ)) (fun τ hτ=>(Classical.choose_spec (hA2 τ) hτ).1) fun τ hτ=>(Classical.choose_spec (hA2 τ) hτ).2
theorem Path.agree0{G:Frame->List Frame->World->Prop}{a0:Frame}{u0:World}{k:Nat}(h:Path P E G a0 u0 k fr frs u):∀ τ,Agree u τ->Agree u0 τ:=by
 induction h with
 | refl h=>exact fun _ x=>x
 | @step k fr frs u τ fr1 frs1 u1 h hτ hK hc hG ih=>
   intro τ' h'
   have hd:u.drawn<=u1.drawn:=hc.drawn
   exact ih τ' fun p hp=>by rw[h' p (by omega),hK.tape];exact hτ p hp
theorem inevitable{R:String}{Post:Value->World->Prop}(hE:Ext P E)(hA:Alike P F E D)(hR:Extern.next R=none)(hR2:R.startsWith "fmt's door" =true){u0:World}{args:Array Value}{fn0:Func}(hf0:P.funcs[f]?=some fn0)(hk0:okFunc P E fn0=true)(hc0:CleanH (clL P E) u0)
  (hC:∀ τ,Agree u0 τ->Calls (ofF P (maskF P E)) f args (onT u0 τ u0.drawn) fun e w=>∃ v,e=.returned v/\Post v w):Inev P E f Post (Frame.enter P f args .normal) [] u0:=by
 refine Classical.byContradiction fun hI=>?_
 obtain⟨G,hG⟩:∃ G:Frame->List Frame->World->Prop,G=fun fr frs u=>Cl P E f fr frs u/\¬Inev P E f Post fr frs u:=⟨_,rfl⟩
 obtain⟨a0,ha0⟩:∃ a0,a0=Frame.enter P f args .normal:=⟨_,rfl⟩
 have hG0:G a0 [] u0:=by
  rw[hG,ha0]
  exact⟨⟨FrOk.enter hf0 hk0 args,(fun x hx=>by cases hx),hc0,by simp[Frame.enter]⟩,hI⟩
 have arrival:∀ τ,Agree u0 τ->∃ n fr' w' v,runN (ofF P (maskF P E)) n (lone a0 [doorC P R] (onT u0 τ u0.drawn))=.next (lone fr' [doorC P R] w')/\fr'.leaving (ofF P (maskF P E)) w' (.returned v)/\Post v w':=fun τ hτ=>by
  obtain⟨e,w',fr',⟨v,rfl,hp⟩,⟨n,hn⟩,_,hl⟩:=hC τ hτ [doorC P R]
  rw[enter_eq hf0 hk0,<-ha0]at hn
  exact⟨n,fr',w',v,hn,hl,hp⟩
 have hit:∀ n fr frs u τ,Path P E G a0 u0 n fr frs u->Agree u τ->∀ fr' w' v,runN (ofF P (maskF P E)) n (lone a0 [doorC P R] (onT u0 τ u0.drawn))=.next (lone fr' [doorC P R] w')->fr'.leaving (ofF P (maskF P E)) w' (.returned v)->Post v w'->False:=fun n fr frs u τ hP hτ fr' w' v hr hl hp=>by
  rw[hG]at hP
  exact not_at hP hτ hr hl hp
 have noTerm:∀ k fr frs u,Path P E G a0 u0 k fr frs u->¬Term P E (doorC P R) fr frs u:=fun k fr frs u hP ⟨τ,hτ,ht⟩=>by
  obtain⟨n,fr',w',v,hr,hl,hp⟩:=arrival τ (hP.agree0 τ hτ)
  by_cases hn:n<=k
  ·obtain⟨fr2,frs2,u2,hP2,h2⟩:=hP.prefix_ n hn
   exact hit n fr2 frs2 u2 τ hP2 (h2 τ hτ) fr' w' v hr hl hp
  ·obtain⟨m,rfl⟩:∃ m,n=k+(m+1):=⟨n - k - 1,by omega⟩
   rw[runN_add,hP.runs [doorC P R] τ hτ]at hr
   have:=ht (m+1) fr' w' hr hl.1
   omega
 have nxt:∀ k (x:Frame×List Frame×World),Path P E G a0 u0 k x.1 x.2.1 x.2.2->∃ y:Frame×List Frame×World,Path P E G a0 u0 (k+1) y.1 y.2.1 y.2.2/\(∀ p,p<x.2.2.drawn->y.2.2.tape p=x.2.2.tape p)/\x.2.2.drawn<=y.2.2.drawn:=fun k x hP=>by
  have hg:=hP.good
  rw[hG]at hg
  rcases adv (R:=R) hE hA hR hR2 hg.1 hg.2 with hT |⟨τ,fr1,frs1,u1,hτ,hK,hc,h1,h2⟩
  ·exact absurd hT (noTerm _ _ _ _ hP)
  ·refine⟨⟨fr1,frs1,u1⟩,.step hP hτ hK hc (by rw[hG];exact⟨h1,h2⟩),fun p hp=>?_,?_⟩
   ·show u1.tape p=_
    rw[hK.tape]
    exact hτ p hp
   ·exact hc.drawn
 obtain⟨σ,hσ0,hσ⟩:∃ σ:(k:Nat)->{x:Frame×List Frame×World // Path P E G a0 u0 k x.1 x.2.1 x.2.2},(σ 0).1=(a0,[],u0)/\∀ k,(∀ p,p<(σ k).1.2.2.drawn->(σ (k+1)).1.2.2.tape p=(σ k).1.2.2.tape p)/\(σ k).1.2.2.drawn<=(σ (k+1)).1.2.2.drawn:=
  by
  let σ:(k:Nat)->{x:Frame×List Frame×World // Path P E G a0 u0 k x.1 x.2.1 x.2.2}:=fun k=>Nat.rec (motive:=fun k=>{x:Frame×List Frame×World // Path P E G a0 u0 k x.1 x.2.1 x.2.2}) ⟨(a0,[],u0),.refl hG0⟩ (fun k x=>⟨Classical.choose (nxt k x.1 x.2),(Classical.choose_spec (nxt k x.1 x.2)).1⟩) k
  exact⟨σ,rfl,fun k=>(Classical.choose_spec (nxt k (σ k).1 (σ k).2)).2⟩
 have mono:∀ j d,(σ j).1.2.2.drawn<=(σ (j+d)).1.2.2.drawn/\∀ p,p<(σ j).1.2.2.drawn->(σ (j+d)).1.2.2.tape p=(σ j).1.2.2.tape p:=by
  intro j d
  induction d with
  | zero=>exact ⟨Nat.le_refl _,fun _ _=>rfl⟩
  | succ d ih=>
    have h:=hσ (j+d)
    refine⟨Nat.le_trans ih.1 h.2,fun p hp=>?_⟩
    rw[<-ih.2 p hp]
    exact h.1 p (Nat.lt_of_lt_of_le hp ih.1)
 have coh:∀ j k p,p<(σ j).1.2.2.drawn->p<(σ k).1.2.2.drawn->(σ j).1.2.2.tape p=(σ k).1.2.2.tape p:=fun j k p hj hk=>by
  rcases Nat.le_total j k with h | h
  ·obtain⟨d,rfl⟩:=Nat.exists_eq_add_of_le h
   exact ((mono j d).2 p hj).symm
  ·obtain⟨d,rfl⟩:=Nat.exists_eq_add_of_le h
   exact (mono k d).2 p hk
 obtain⟨τ,hτ⟩:∃ τ:Nat->Question->Nat,∀ k,Agree (σ k).1.2.2 τ:=by
  classical
  refine⟨fun p=>if h:∃ k,p<(σ k).1.2.2.drawn then (σ (Classical.choose h)).1.2.2.tape p else u0.tape p,fun k p hp=>?_⟩
  have h:∃ k,p<(σ k).1.2.2.drawn:=⟨k,hp⟩
  simp only[dif_pos h]
  exact coh _ _ p (Classical.choose_spec h) hp
 obtain⟨n,fr',w',v,hr,hl,hp⟩:=arrival τ (by have:=hτ 0;rw[hσ0]at this;exact this)
 exact hit n _ _ _ τ (σ n).2 (hτ n) fr' w' v hr hl hp
end
end
section
open Go Go.Conc
open Go.ConcN (sumTo)
section
variable {P:Program} {main:Bool} {K:World->Prop} {Still:Loc->Prop} {B B':Nat}
theorem evC_mono(hB:B<=B'){e:Event}(h:EvC Still B e):EvC Still B' e:=by
 obtain⟨a,rfl,h1,h2⟩:=h
 exact⟨a,rfl,h1,Nat.lt_of_lt_of_le h2 hB⟩
theorem atIn_mono(hB:B<=B'){s:Seat}{g g₂:Goroutine}(h:AtIn P main K Still B s g g₂):AtIn P main K Still B' s g g₂:=by
 obtain⟨h1,h2,h3,h4,h5,es,h6,h7⟩:=h
 exact⟨h1,h2,h3,h4,h5,es,fun e he=>evC_mono hB (h6 e he),h7⟩
theorem goes_weaken{R:World->World->Prop}{D D':World->World->Array Event->Prop}{Stop Stop':Goroutine->World->Prop}(hD:∀ w w' es,D w w' es->D' w w' es)(hS:∀ g w,Stop g w->Stop' g w):∀ (n:Nat) (g:Goroutine) (w:World),Goes P main R D Stop n g w->Goes P main R D' Stop' n g w
 | 0,_,_,h=>fun w₁ hr=>hS _ _ (h w₁ hr)
 | n+1,g,w,h=>by
   rcases h with h |⟨hs,h⟩
   ·exact .inl fun w₁ hr=>hS _ _ (h w₁ hr)
   ·refine .inr ⟨hs,fun w₁ hr=>?_⟩
    have h1:=h w₁ hr
    cases e:stepG P main g w₁ with
    | go g' w' es=>
      rw[e]at h1
      exact⟨hD _ _ _ h1.1,goes_weaken hD hS n g' w' h1.2⟩
    | _=>rw [e]at h1;exact h1
theorem idle_mono(hB:B<=B'){T:Trace}{i n:Nat}{g:Goroutine}{s:Option Seat}(h:Idle P K Still B T i n g s):Idle P K Still B' T i n g s:=by
 cases s with
 | none=>exact h
 | some s=>
   rcases h with ⟨k,w,e,hg⟩ |⟨e,g₀,g₂,e2,ha⟩
   ·exact .inl ⟨k,w,e,goes_weaken (fun _ _ _ x=>⟨x.1,fun e he=>evC_mono hB (x.2 e he)⟩) (fun _ _ ⟨g₂,x⟩=>⟨g₂,atIn_mono hB x⟩) k g w hg⟩
   ·exact .inr ⟨e,g₀,g₂,e2,atIn_mono hB ha⟩
theorem ring_raise(hB:B<=B'){Mem:Nat->Prop}{Inb:Nat->Option Seat}{h:Nat}{T:Trace}{gs:Array Goroutine}{w:World}{q:Nat->Nat}(C:Ring P K Still B Mem Inb h T gs w q):Ring P K Still B' Mem Inb h T gs w q:=
 C.mono hB fun i g hi hg=>idle_mono hB (C.idle i g hi hg)
theorem hold_one(hKat:∀ w d,K w->K (w.at d)){Mem:Nat->Prop}{Inb:Nat->Option Seat}{h:Nat}{T:Trace}{gs:Array Goroutine}{w:World}{q:Nat->Nat}{a:Goroutine}{sl:Option (Nat×Nat)}(ha:gs[h]?=some a)(hrun:a.status=.running)(C:Ring P K Still B Mem Inb h T gs w q)
  (S:∀ d,∃ a' w' es B',stepG P (h == 0) a (w.at d)=.go a' w' es/\B<=B'/\DH K Still B' Inb (w.at d) w' es):
  ∃ (N:Nat) (m':Machine) (T':Trace),runNT P N (crowd gs w sl) T=(.next m',T')/\∃ gs' d a' w' es sl' q' B',m'=crowd gs' w' sl'/\gs'.size=gs.size/\gs'[h]?=some a'/\stepG P (h == 0) a (w.at d)=.go a' w' es/\B<=B'/\Ring P K Still B' Mem Inb h T' gs' w' q':=by
 refine runs_until (P:=P)
  (Inv:=fun μ m t=>(∃ gs₁ w₁ sl₁ q₁,m=crowd gs₁ w₁ sl₁/\(∃ d,w₁=w.at d)/\gs₁.size=gs.size/\gs₁[h]?=some a/\Ring P K Still B Mem Inb h t gs₁ w₁ q₁/\μ=1+sumTo gs₁.size q₁)\/(μ=0/\∃ gs' d a' w' es sl' q' B',m=crowd gs' w' sl'/\gs'.size=gs.size/\gs'[h]?=some a'/\stepG P (h == 0) a (w.at d)=.go a' w' es/\B<=B'/\Ring P K Still B' Mem Inb h t gs' w' q'))
  (Done:=fun m t=>∃ gs' d a' w' es sl' q' B',m=crowd gs' w' sl'/\gs'.size=gs.size/\gs'[h]?=some a'/\stepG P (h == 0) a (w.at d)=.go a' w' es/\B<=B'/\Ring P K Still B' Mem Inb h t gs' w' q')
  ?_ (1+sumTo gs.size q) _ _ (.inl ⟨gs,w,sl,q,rfl,⟨w.drawn,rfl⟩,rfl,ha,C,rfl⟩)
 rintro μ m t (⟨gs₁,w₁,sl₁,q₁,rfl,⟨d₀,rfl⟩,hsz,ha₁,C₁,rfl⟩ |⟨_,hd⟩)
 ·refine .inr ?_
  obtain⟨i,g,d,sl',hi,hg,hst⟩:=crowd_pick (P:=P) (w:=w.at d₀) (sl:=sl₁) (C₁.awake ha₁ (.inl hrun)) ⟨h,a,ha₁,hrun⟩
  have Cd:Ring P K Still B Mem Inb h t gs₁ ((w.at d₀).at d) q₁:=TokCore.at hKat C₁ d
  by_cases e:i=h
  ·subst e
   obtain rfl:g=a:=by rw[ha₁]at hi;exact (Option.some.inj hi).symm
   obtain⟨a',w',es,B',hgo,hB,hD⟩:=S d
   obtain⟨C',ha'⟩:=Ring.own (ring_raise hB Cd) (a':=a') hi hD
   exact⟨_,_,0,by rw[hst];exact runT_crowd_go (sl:=sl') hi hgo,by omega,.inr ⟨rfl,_,d,a',w',es,sl',q₁,B',rfl,by simpa using hsz,ha',hgo,hB,C'⟩⟩
  ·obtain⟨gs',ops,q',hrt,hsz',hsp,_,_,C',hlt⟩:=TokCore.by_step (sl:=sl') (fun t u i=>Knows.app u) Cd hi e hg
    (fun x gx hx hgx=>by subst hx;rw[ha₁]at hgx;obtain rfl:=Option.some.inj hgx;exact again_of_running (.inl hrun) _) (fun hD=>hD.elim)
    (fun s g₂ _ _=>⟨fun hD=>hD,fun x gx c hx hgx _=>by subst hx;rw[ha₁]at hgx;obtain rfl:=Option.some.inj hgx;exact offersAt_of_not_blocked (by rw[hrun];simp) _ _⟩)
   exact⟨_,_,1+sumTo gs'.size q',by rw[hst];exact hrt,by rw[hsz'];omega,.inl ⟨gs',_,sl',q',rfl,⟨d,rfl⟩,hsz'.trans hsz,by rw[hsp h rfl];exact ha₁,C',rfl⟩⟩
 ·exact .inl hd
end
end
section
open Go Go.Conc
section
variable {P X:Program} {F:Array Func} {E:List String} {D f:FuncId} {Post:Value->World->Prop}
theorem evHd_of{n B:Nat}{e:Event}(h:EvOk n e)(hB:n<=B):EvHd (fun _=>False) B e:=by
 cases h with
 | cell a wr sy h=>exact ⟨fun x _ h=>h.elim,by simp,by simp,by cases sy <;> cases wr <;> exact Nat.lt_of_lt_of_le h hB⟩
 | obj r wr sy h=>exact ⟨fun x _ h=>h.elim,by simp,by simp,by cases sy <;> cases wr <;> exact Nat.lt_of_lt_of_le h hB⟩
 | room wr sy=>exact ⟨fun x _ h=>h.elim,by simp,by simp,by cases sy <;> cases wr <;> trivial⟩
 | extern g wr sy=>exact ⟨fun x _ h=>h.elim,by simp,by simp,by cases sy <;> cases wr <;> trivial⟩
 | output wr sy=>exact ⟨fun x _ h=>h.elim,by simp,by simp,by cases sy <;> cases wr <;> trivial⟩
theorem cstep_self{ST:Stp}{w u1:World}{fr1:Frame}{frs1:List Frame}(h:CStep ST X w fr1 frs1 u1)(ht:u1.tape=w.tape)(ho:u1.output=w.output):∃ es,ST X [] w=.go (mkG fr1 (frs1 ++ [])) u1 es:=by
 obtain⟨n,hd,h⟩:=h
 obtain⟨W1,es,e,hS,_,hu,_⟩:=h [] (fun _=>False) w w.tape w.drawn (Sim.refl _) fun _ _ _=>rfl
 have hw:onT W1 w.tape (w.drawn+n)=u1:=by rw[world_eq hS (hu.trans ho.symm),<-ht,<-hd];rfl
 rw[hw]at e
 exact⟨es,e⟩
theorem cstep_det{ST:Stp}{cl:Loop->Prop}{w u1 u2:World}{fr1 fr2:Frame}{frs1 frs2:List Frame}(h1:CStep ST X w fr1 frs1 u1)(k1:Kpt cl w u1)(h2:CStep ST X w fr2 frs2 u2)(k2:Kpt cl w u2):fr1=fr2/\frs1=frs2/\u1=u2:=by
 obtain⟨_,e1⟩:=cstep_self h1 k1.tape k1.output
 obtain⟨_,e2⟩:=cstep_self h2 k2.tape k2.output
 rw[e1]at e2
 injection e2 with e3 e4
 unfold mkG at e3
 injection e3 with e5 e6
 exact⟨e5,by simpa using e6,e4⟩
def Nxt(P:Program)(E:List String)(fr:Frame)(frs:List Frame)(u:World)(fr1:Frame)(frs1:List Frame)(u1:World):Prop:=
 ¬(frs=[]/\fr.mode≠.run/\fr.defers=[])/\∃ τ,Agree u τ/\Kpt (clL P E) (onT u τ u.drawn) u1/\CStep (stp fr frs) (ofF P (maskF P E)) (onT u τ u.drawn) fr1 frs1 u1
inductive Ltr(P:Program)(E:List String):Frame->List Frame->World->Frame->List Frame->World->Prop
 | one {fr:Frame} {frs:List Frame} {u:World} {fr1:Frame} {frs1:List Frame} {u1:World} (h:Nxt P E fr frs u fr1 frs1 u1):Ltr P E fr frs u fr1 frs1 u1
 | more {fr:Frame} {frs:List Frame} {u:World} {fr1:Frame} {frs1:List Frame} {u1:World} {fr2:Frame} {frs2:List Frame} {u2:World} (h:Nxt P E fr frs u fr1 frs1 u1) (h2:Ltr P E fr1 frs1 u1 fr2 frs2 u2):Ltr P E fr frs u fr2 frs2 u2
theorem Ltr.trans{fr fr1 fr2:Frame}{frs frs1 frs2:List Frame}{u u1 u2:World}(h:Ltr P E fr frs u fr1 frs1 u1)(h2:Ltr P E fr1 frs1 u1 fr2 frs2 u2):Ltr P E fr frs u fr2 frs2 u2:=by
 induction h with
 | one h=>exact .more h h2
 | more h _ ih=>exact .more h (ih h2)
theorem inev_strong{C:Frame->List Frame->World->Prop}(h:∀ fr frs u,Inev P E f Post fr frs u->(∀ fr' frs' u',Ltr P E fr frs u fr' frs' u'->Inev P E f Post fr' frs' u'->C fr' frs' u')->C fr frs u){fr:Frame}{frs:List Frame}{u:World}(hI:Inev P E f Post fr frs u):C fr frs u:=by
 have key:C fr frs u/\∀ fr' frs' u',Ltr P E fr frs u fr' frs' u'->Inev P E f Post fr' frs' u'->C fr' frs' u':=by
  induction hI with
  | @done fr u hc hm hd fn hfn τ hτ v hr hp=>
    have no:∀ {fr1 frs1 u1},¬Nxt P E fr [] u fr1 frs1 u1:=fun h=>h.1 ⟨rfl,by rw[hm];simp,hd⟩
    have hl:∀ fr' frs' u',Ltr P E fr [] u fr' frs' u'->Inev P E f Post fr' frs' u'->C fr' frs' u':=fun fr' frs' u' hL _=>by
     cases hL with
     | one h=>exact absurd h no
     | more h _=>exact absurd h no
    exact⟨h _ _ _ (.done hc hm hd fn hfn τ hτ v hr hp) hl,hl⟩
  | @step fr frs u hc hp nx hn hi ih=>
    have at_:∀ {fr1 frs1 u1},Nxt P E fr frs u fr1 frs1 u1->∃ τ,Agree u τ/\fr1=(nx τ).1/\frs1=(nx τ).2.1/\u1=(nx τ).2.2:=fun ⟨_,τ,hτ,hK,hS⟩=>by
     obtain⟨e1,e2,e3⟩:=cstep_det hS hK (hn τ hτ).2 (hn τ hτ).1
     exact⟨τ,hτ,e1,e2,e3⟩
    have hl:∀ fr' frs' u',Ltr P E fr frs u fr' frs' u'->Inev P E f Post fr' frs' u'->C fr' frs' u':=fun fr' frs' u' hL hI'=>by
     cases hL with
     | one h=>
       obtain⟨τ,hτ,rfl,rfl,rfl⟩:=at_ h
       exact (ih τ hτ).1
     | more h h2=>
       obtain⟨τ,hτ,rfl,rfl,rfl⟩:=at_ h
       exact (ih τ hτ).2 _ _ _ h2 hI'
    exact⟨h _ _ _ (.step hc hp nx hn hi) hl,hl⟩
 exact key.1
theorem Inev.cl{fr:Frame}{frs:List Frame}{u:World}(h:Inev P E f Post fr frs u):Cl P E f fr frs u:=by cases h <;> assumption
theorem Inev.next{fr:Frame}{frs:List Frame}{u:World}(h:Inev P E f Post fr frs u)(hn:¬(frs=[]/\fr.mode≠.run/\fr.defers=[])){τ:Nat->Question->Nat}(hτ:Agree u τ):
  ∃ fr1 frs1 u1,Nxt P E fr frs u fr1 frs1 u1/\Inev P E f Post fr1 frs1 u1/\Kpt (clL P E) (onT u τ u.drawn) u1/\CStep (stp fr frs) (ofF P (maskF P E)) (onT u τ u.drawn) fr1 frs1 u1:=by
 cases h with
 | done hc hm hd=>exact absurd ⟨rfl,by rw[hm];simp,hd⟩ hn
 | step hc hp nx h hi=>exact ⟨_,_,_,⟨hn,τ,hτ,(h τ hτ).1,(h τ hτ).2⟩,hi τ hτ,(h τ hτ).1,(h τ hτ).2⟩
theorem no_panic{fr:Frame}{frs:List Frame}{u:World}(h:Inev P E f Post fr frs u):∀ chain,fr.mode≠.panicking chain:=by
 induction h with
 | @done fr u hc hm=>intro chain e;rw[hm]at e;cases e
 | @step fr frs u hc hp nx hn hi ih=>
   intro chain e
   have hA:Agree u u.tape:=fun _ _=>rfl
   have hmode:fr.mode≠.run:=by rw[e];simp
   obtain⟨_,hs⟩:=cstep_self (hn u.tape hA).2 (hn u.tape hA).1.tape (hn u.tape hA).1.output
   have hx:stp fr frs (ofF P (maskF P E)) [] (onT u u.tape u.drawn)=_:=unwind_stp hmode (ofF P (maskF P E)) [] (onT u u.tape u.drawn)
   rw[hs]at hx
   cases hd:fr.defers with
   | nil=>
     cases frs with
     | nil=>exact hp ⟨rfl,hmode,hd⟩
     | cons c frs=>
       obtain⟨fn,_,g2⟩:=same_fn hc.ok
       have hr:(nx u.tape).1=c.raise chain:=by
        rw[unwind]at hx
        simp only[hd,e,Frame.catches,g2,List.cons_append]at hx
        injection hx with hx _
        unfold mkG at hx
        injection hx
       obtain⟨ch2,h2⟩:∃ ch2,(c.raise chain).mode=.panicking ch2:=by
        unfold Frame.raise
        split <;> exact⟨_,rfl⟩
       exact ih u.tape hA ch2 (by rw[hr];exact h2)
   | cons d ds=>
     obtain⟨r,rfl⟩:=hc.ok.defs d (by rw[hd];exact List.mem_cons_self)
     have hr:(nx u.tape).1.mode=.panicking chain:=by
      rw[unwind]at hx
      simp only[hd]at hx
      cases hrt:(Instr.takeDeferred r).runT (ofF P (maskF P E)) (onT u u.tape u.drawn) #[]with
      | mk res es=>
        rw[hrt]at hx
        cases res with
        | ok calls w1=>
          simp only[GStep.after]at hx
          injection hx with hx _
          unfold mkG at hx
          injection hx with hx _
          rw[hx]
          exact e
        | halt a w1=>simp [GStep.after]at hx
     exact ih u.tape hA chain hr
end
def Mm(Inb:Nat->Option Seat):Nat->Prop:=fun i=>Inb i≠none\/i=0
structure Co(R:Program)(Inb:Nat->Option Seat)(J:Nat->Prop)(n:Nat)(rf:Frame)(rfs:List Frame)(u W:World)(m:Machine)(T:Trace):Prop where
 ex:∃ gs sl q B,m=crowd gs W sl/\gs.size=n/\gs[0]?=some (mkG rf rfs)/\Ring R (fun _=>True) (fun _=>False) B (Mm Inb) Inb 0 T gs W q
 sim:Sim J u W
 seats:∀ i s c,Inb i=some s->s.has c->J c
 zero:Inb 0=none
 high:∀ i,n<=i->Inb i=none
def Rch(R:Program)(m:Machine)(T:Trace)(m':Machine)(T':Trace):Prop:=∃ N,runNT R N m T=(.next m',T')
theorem Rch.refl(R:Program)(m:Machine)(T:Trace):Rch R m T m T:=⟨0,rfl⟩
theorem Rch.trans{R:Program}{m m1 m2:Machine}{T T1 T2:Trace}(h:Rch R m T m1 T1)(h2:Rch R m1 T1 m2 T2):Rch R m T m2 T2:=by
 obtain⟨a,ha⟩:=h
 obtain⟨b,hb⟩:=h2
 exact⟨a+b,by rw[runNT_add,ha];exact hb⟩
structure Kp(J:Nat->Prop)(W W':World):Prop where
 os:W'.os=W.os
 output:W'.output=W.output
 block:∀ k,J k->W'.heap[k]?=W.heap[k]?
theorem Kp.refl(J:Nat->Prop)(W:World):Kp J W W:=⟨rfl,rfl,fun _ _=>rfl⟩
theorem Kp.trans{J J':Nat->Prop}{W W1 W2:World}(h:Kp J W W1)(hJ:∀ k,J k->J' k)(h2:Kp J' W1 W2):Kp J W W2:=⟨h2.os.trans h.os,h2.output.trans h.output,fun k hk=>(h2.block k (hJ k hk)).trans (h.block k hk)⟩
section
variable {P X R:Program} {F:Array Func} {E:List String} {D f:FuncId} {Post:Value->World->Prop}
theorem co_one{Inb:Nat->Option Seat}{J:Nat->Prop}{n:Nat}{rf:Frame}{rfs:List Frame}{u W:World}{m:Machine}{T:Trace}(hC:Co R Inb J n rf rfs u W m T){Φ:Frame->List Frame->World->Prop}
  (h:∀ τ,Agree u τ->∃ rf1 rfs1 u1,Φ rf1 rfs1 u1/\CStep (stp rf rfs) R (onT u τ u.drawn) rf1 rfs1 u1):∃ rf1 rfs1 u1 W1 m1 T1,Φ rf1 rfs1 u1/\Rch R m T m1 T1/\Co R Inb J n rf1 rfs1 u1 W1 m1 T1/\Kp J W W1:=by
 obtain⟨gs,sl,q,B,rfl,hsz,hg,hR⟩:=hC.ex
 obtain⟨tt,htt⟩:∃ tt:Nat->Nat->Question->Nat,tt=fun d p=>if p<u.drawn then u.tape p else W.tape (d+(p - u.drawn)):=⟨_,rfl⟩
 have hA:∀ d,Agree u (tt d):=fun d p hp=>by rw[htt];simp only[if_pos hp]
 have st:∀ d,∃ rf1 rfs1 u1 W1 es,Φ rf1 rfs1 u1/\stepG R true (mkG rf rfs) (W.at d)=.go (mkG rf1 rfs1) W1 es/\Sim J u1 W1/\Kp J W W1/\∀ e∈es,EvOk W1.heap.size e:=fun d=>by
  obtain⟨rf1,rfs1,u1,hΦ,k,_,hstep⟩:=h (tt d) (hA d)
  obtain⟨W1,es,e,h1,h2,h3,h4,_,h6⟩:=hstep [] J W W.tape d (hC.sim.of_heap rfl rfl rfl rfl) fun i hi q=>by
   show W.tape (d+i) q=tt d (u.drawn+i) q
   rw[htt]
   simp only
   rw[if_neg (by omega),Nat.add_sub_cancel_left]
  unfold stp at e
  simp only[List.append_nil]at e
  exact⟨rf1,rfs1,u1,onT W1 W.tape (d+k),es,hΦ,e,h1.of_heap rfl rfl rfl rfl,⟨h2,h3,h4⟩,h6⟩
 obtain⟨N,m',T',hrun,gs',d,a',w',es,sl',q',B',rfl,hsz',hg',hgo,hB,C'⟩:=hold_one (sl:=sl) (fun _ _ x=>x) hg rfl hR fun d=>by
  obtain⟨rf1,rfs1,u1,W1,es,_,e,_,hk,h6⟩:=st d
  exact⟨_,W1,es,max B W1.heap.size,e,Nat.le_max_left _ _,fun _=>trivial,fun i s c hs hh=>hk.block c (hC.seats i s c hs hh),fun e he=>evHd_of (h6 e he) (Nat.le_max_right _ _)⟩
 obtain⟨rf1,rfs1,u1,W1,es1,hΦ,e,hS1,hk,_⟩:=st d
 have hgo:stepG R true (mkG rf rfs) (W.at d)=_:=hgo
 rw[e]at hgo
 injection hgo with e1 e2 e3
 subst e1 e2 e3
 exact⟨rf1,rfs1,u1,W1,_,T',hΦ,⟨N,hrun⟩,⟨⟨gs',sl',q',B',rfl,hsz'.trans hsz,hg',C'⟩,hS1,hC.seats,hC.zero,hC.high⟩,hk⟩
theorem cstep_under{fr fr1:Frame}{top frs1:List Frame}{w u1:World}(b:List Frame)(h:CStep (stp fr top) X w fr1 frs1 u1):CStep (stp fr (top ++ b)) X w fr1 (frs1 ++ b) u1:=by
 obtain⟨n,hd,h⟩:=h
 refine⟨n,hd,fun cs J W τ d hS hτ=>?_⟩
 have:=h (b ++ cs) J W τ d hS hτ
 unfold stp at this ⊢
 simpa only[List.append_assoc]using this
def Bas(l:List Frame):Prop:=l.getLast?.map (·.roundOf)=some none
theorem Bas.lasts{l l1:List Frame}(h:Bas l)(hl:Lasts l l1):Bas l1:=by
 unfold Lasts at hl
 unfold Bas at h ⊢
 have:=congrArg (Option.map Prod.snd) hl
 simp only[Option.map_map]at this
 exact this.trans h
theorem not_lost{fr a:Frame}{top gb az:List Frame}{w u1:World}{cl:Loop->Prop}(hl:Lost (stp fr top) X w)(hc:CStep (stp fr (top ++ gb)) X w a az u1)(hk:Kpt cl w u1):False:=by
 obtain⟨es,e⟩:=cstep_self hc hk.tape hk.output
 obtain⟨o,w',es',e2⟩:=hl gb
 unfold stp at e e2
 simp only[List.append_nil]at e
 rw[e2]at e
 cases e
theorem top_step(hE:Ext P E)(hA:Alike P F E D){fr:Frame}{top gb rb:List Frame}{u W:World}{Inb:Nat->Option Seat}{J:Nat->Prop}{n:Nat}{m:Machine}{T:Trace}(hI:Inev P E f Post fr (top ++ gb) u)(hb:Bas (fr :: top))(hn:¬(top=[]/\fr.mode≠.run/\fr.defers=[]))
  (hC:Co (ofF P F) Inb J n fr (top ++ rb) u W m T):
  ∃ fr1 top1 u1 W1 m1 T1 rf1,Nxt P E fr (top ++ gb) u fr1 (top1 ++ gb) u1/\Inev P E f Post fr1 (top1 ++ gb) u1/\Bas (fr1 :: top1)/\Rch (ofF P F) m T m1 T1/\Kp J W W1/\Co (ofF P F) Inb J n rf1 (top1 ++ rb) u1 W1 m1 T1/\(rf1=fr1\/∃ args,fr1=Frame.enter P D args .normal/\rf1=Frame.enter (ofF P F) D args .normal):=by
 obtain⟨rf1,rfs1,u1,W1,m1,T1,⟨fr1,top1,rfl,h1,h2,h3,h4⟩,hr,hC1,hk⟩:=co_one hC (Φ:=fun rf1 rfs1 u1=>∃ fr1 top1,rfs1=top1 ++ rb/\Nxt P E fr (top ++ gb) u fr1 (top1 ++ gb) u1/\Inev P E f Post fr1 (top1 ++ gb) u1/\Bas (fr1 :: top1)/\(rf1=fr1\/∃ args,fr1=Frame.enter P D args .normal/\rf1=Frame.enter (ofF P F) D args .normal)) fun τ hτ=>by
  have hcl:=hI.cl
  obtain⟨a,az,w1,hN,hI1,hK,hS⟩:=hI.next (fun ⟨h1,h2,h3⟩=>hn ⟨(List.append_eq_nil_iff.1 h1).1,h2,h3⟩) hτ
  rcases one_step (F:=F) (D:=D) (u:=onT u τ u.drawn) (fr:=fr) (frs:=top) hE hA hcl.ok (fun x hx=>hcl.oks x (List.mem_append_left _ hx)) hcl.clean (fun e=>by subst e;simpa[Bas]using hb) (fun hm hd e=>hn ⟨e,hm,hd⟩)with hl |⟨fr1,frs1,u1,hK1,hla,c1,hrest⟩
  ·exact (not_lost hl hS hK).elim
  ·obtain⟨rfl,rfl,rfl⟩:=cstep_det hS hK (cstep_under gb c1) hK1
   rcases hrest with ⟨g,args,rfl,fn,hg,hk⟩ |⟨_,_,_,hR⟩
   ·obtain⟨fn',h1,h2⟩:=hI1.cl.ok.fn
    rw[show (Frame.enter (ofF P (maskF P E)) g args .normal).fn=g from rfl,hg]at h1
    obtain rfl:=Option.some.inj h1
    rw[hk]at h2
    cases h2
   ·rcases hR with hR |⟨args,e,hR⟩
    ·exact⟨_,_,_,⟨_,_,rfl,hN,hI1,hb.lasts hla,.inl rfl⟩,cstep_under rb hR⟩
    ·exact⟨_,_,_,⟨_,_,rfl,hN,hI1,hb.lasts hla,.inr ⟨args,e,rfl⟩⟩,cstep_under rb hR⟩
 exact⟨fr1,top1,u1,W1,m1,T1,rf1,h1,h2,h3,hr,hk,hC1,h4⟩
theorem ret_two(hA:Alike P F E D){fr:Frame}{u:World}(hf:FrOk P E fr)(hc:CleanH (clL P E) u)(hm:fr.mode=.returning)(hd:fr.defers=[]):
  (∀ c:Frame,Lost (stp fr [c]) (ofF P (maskF P E)) u)\/∃ v u1,Kpt (clL P E) u u1/\(∀ c:Frame,CStep (stp fr [c]) (ofF P (maskF P E)) u (c.finish v) [] u1)/\∀ c:Frame,CStep (stp fr [c]) (ofF P F) u (c.finish v) [] u1:=by
 have hmr:fr.mode≠.run:=by rw[hm];simp
 have hex:=fun (c:Frame) X cs w=>unwind_stp (fr:=fr) (frs:=[c]) hmr X cs w
 obtain⟨fn,g1,g2⟩:=same_fn hf
 obtain⟨fnR,g3,g4⟩:∃ fnR,(ofF P F).funcs[fr.fn]?=some fnR/\results fnR fr.tmps=results fn fr.tmps:=by
  by_cases hD:fr.fn=D
  ·obtain⟨fd,c,c',kk,e1,e2,e3,e4⟩:=hA.real
   rw[hD,e1]at g1
   obtain rfl:=Option.some.inj g1
   exact⟨{fd with body:=some c,ntmps:=kk},by rw[hD];exact e4,rfl⟩
  ·exact⟨fn,(hA.same _ hD).trans g1,rfl⟩
 have s1:=TameS.sound (X:=ofF P (maskF P E)) (own:=True) (.inl ⟨rfl,trivial⟩) (tm_results (P:=P) (F:=P.funcs) (E:=E) fn fr.tmps fun _=>False) u hc fun k h=>h.elim
 have s3:=TameS.sound (X:=ofF P F) (own:=False) (.inr ⟨rfl,id⟩) (tm_results (P:=P) (F:=F) (E:=E) fn fr.tmps fun _=>False) u hc fun k h=>h.elim
 have e1:=runT_fst (ofF P (maskF P E)) (results fn fr.tmps) u #[]
 cases hrun:(results fn fr.tmps).run (ofF P (maskF P E)) u with
 | ok v u1=>
   rw[hrun]at s1 s3
   have m1:=s1.2.2.resolve_left fun h=>h.2
   have m3:=s3.2.2.resolve_left fun h=>h.2
   refine .inr ⟨v,u1,s1.2.1,fun c=>CStep.ofMir m1 fun cs w w1 es e=>⟨seen (ofF P (maskF P E)) fr.fn es ++ #[],by
    rw[hex,unwind]
    simp only[hd,hm,g2,e,doReturn,hf.kind,List.cons_append]
    rfl,fun e he=>mem_seen (by simpa using he)⟩,fun c=>CStep.ofMir m3 fun cs w w1 es e=>⟨seen (ofF P F) fr.fn es ++ #[],by
    rw[hex,unwind]
    simp only[hd,hm,g3,g4,e,doReturn,hf.kind,List.cons_append]
    rfl,fun e he=>mem_seen (by simpa using he)⟩⟩
 | halt h u1=>
   rw[hrun]at e1
   cases hrt:(results fn fr.tmps).runT (ofF P (maskF P E)) u #[]with
   | mk r es2=>
     rw[hrt]at e1
     simp only at e1
     subst e1
     refine .inl fun c cs=>?_
     rw[hex,unwind]
     simp only[hd,hm,g2,hrt]
     cases h <;> exact⟨_,_,_,rfl⟩
def Above(P:Program)(F:Array Func)(E:List String)(f:FuncId)(Post:Value->World->Prop)(fr:Frame)(frs:List Frame)(u:World):Prop:=
 ∀ top c gb,frs=top ++ c :: gb->Bas (fr :: top)->∀ c' rb Inb J n W m T,Co (ofF P F) Inb J n fr (top ++ c' :: rb) u W m T->
   ∃ v u' J' n' W' m' T',Ltr P E fr frs u (c.finish v) gb u'/\Inev P E f Post (c.finish v) gb u'/\Rch (ofF P F) m T m' T'/\Co (ofF P F) Inb J' n' (c'.finish v) rb u' W' m' T'/\(∀ k,J k->J' k)/\n<=n'/\Kp J W W'
def DriveFw(P:Program)(F:Array Func)(E:List String)(D f:FuncId)(Post:Value->World->Prop):Prop:=
 ∀ args c gs u,Inev P E f Post (Frame.enter P D args .normal) (c :: gs) u->(∀ fr' frs' u',Ltr P E (Frame.enter P D args .normal) (c :: gs) u fr' frs' u'->Inev P E f Post fr' frs' u'->Above P F E f Post fr' frs' u')->
   ∀ c' rs Inb J n W m T,Co (ofF P F) Inb J n (Frame.enter (ofF P F) D args .normal) (c' :: rs) u W m T->
   ∃ v u' J' n' W' m' T',Ltr P E (Frame.enter P D args .normal) (c :: gs) u (c.finish v) gs u'/\Inev P E f Post (c.finish v) gs u'/\Rch (ofF P F) m T m' T'/\Co (ofF P F) Inb J' n' (c'.finish v) rs u' W' m' T'/\(∀ k,J k->J' k)/\n<=n'/\Kp J W W'
theorem returning_of{fr:Frame}{frs:List Frame}{u:World}(h:Inev P E f Post fr frs u)(hm:fr.mode≠.run):fr.mode=.returning:=by
 cases e:fr.mode with
 | run=>exact absurd e hm
 | panicking chain=>exact absurd e (no_panic h chain)
 | returning=>rfl
theorem Bas.finish{t:Frame}{ts:List Frame}(v:Value)(h:Bas (t :: ts)):Bas (t.finish v :: ts):=h.lasts (Lasts.same (finish_fn _ _).1 (finish_fn _ _).2 _)
theorem Bas.below{t a:Frame}{ts:List Frame}(h:Bas (a :: t :: ts)):Bas (t :: ts):=by
 unfold Bas at h ⊢
 rwa [List.getLast?_cons_cons]at h
theorem above(hE:Ext P E)(hA:Alike P F E D)(hD:DriveFw P F E D f Post){fr:Frame}{frs:List Frame}{u:World}(hI:Inev P E f Post fr frs u):Above P F E f Post fr frs u:=by
 refine inev_strong (C:=Above P F E f Post) (fun fr frs u hI ih=>?_) hI
 rintro top c gb rfl hb c' rb Inb J n W m T hC
 by_cases hpop:top=[]/\fr.mode≠.run/\fr.defers=[]
 ·obtain⟨rfl,hm,hd⟩:=hpop
  have hr:=returning_of hI hm
  obtain⟨_,_,u1,W1,m1,T1,⟨v,rfl,rfl,h1,h2⟩,hrc,hC1,hk⟩:=co_one hC (Φ:=fun rf1 rfs1 u1=>∃ v,rf1=c'.finish v/\rfs1=rb/\Nxt P E fr (c :: gb) u (c.finish v) gb u1/\Inev P E f Post (c.finish v) gb u1) fun τ hτ=>by
   have hcl:=hI.cl
   obtain⟨a,az,w1,hN,hI1,hK,hS⟩:=hI.next (fun ⟨h1,_,_⟩=>by cases h1) hτ
   rcases ret_two (F:=F) (D:=D) (u:=onT u τ u.drawn) hA hcl.ok hcl.clean hr hd with hl |⟨v,u1,hK1,c1,c2⟩
   ·exact (not_lost (top:=[c]) (gb:=gb) (hl c) hS hK).elim
   ·obtain⟨rfl,rfl,rfl⟩:=cstep_det hS hK (cstep_under gb (c1 c)) hK1
    exact⟨_,_,_,⟨v,rfl,rfl,hN,hI1⟩,cstep_under rb (c2 c')⟩
  exact⟨v,u1,J,n,W1,m1,T1,.one h1,h2,hrc,hC1,fun _ h=>h,Nat.le_refl _,hk⟩
 ·obtain⟨fr1,top1,u1,W1,m1,T1,rf1,h1,h2,h3,hr,hk,hC1,h4⟩:=top_step hE hA hI hb hpop hC
  rcases h4 with rfl |⟨args,rfl,rfl⟩
  ·obtain⟨v,u',J',n',W',m',T',g1,g2,g3,g4,g5,g6,g7⟩:=ih _ _ _ (.one h1) h2 top1 c gb rfl h3 c' rb Inb J n W1 m1 T1 hC1
   exact⟨v,u',J',n',W',m',T',.more h1 g1,g2,hr.trans g3,g4,g5,g6,hk.trans (fun _ h=>h) g7⟩
  ·cases top1 with
   | nil=>
     obtain⟨v,u',J',n',W',m',T',g1,g2,g3,g4,g5,g6,g7⟩:=hD args c gb u1 h2 (fun _ _ _ hl hi=>ih _ _ _ (.more h1 hl) hi) c' rb Inb J n W1 m1 T1 hC1
     exact⟨v,u',J',n',W',m',T',.more h1 g1,g2,hr.trans g3,g4,g5,g6,hk.trans (fun _ h=>h) g7⟩
   | cons t ts=>
     obtain⟨v,u',J',n',W',m',T',g1,g2,g3,g4,g5,g6,g7⟩:=hD args t (ts ++ c :: gb) u1 h2 (fun _ _ _ hl hi=>ih _ _ _ (.more h1 hl) hi) t (ts ++ c' :: rb) Inb J n W1 m1 T1 hC1
     obtain⟨v2,u2,J2,n2,W2,m2,T2,k1,k2,k3,k4,k5,k6,k7⟩:=ih _ _ _ (.more h1 g1) g2 ts c gb rfl (h3.below.finish v) c' rb Inb J' n' W' m' T' g4
     exact⟨v2,u2,J2,n2,W2,m2,T2,.more h1 (g1.trans k1),k2,(hr.trans g3).trans k3,k4,fun k h=>k5 k (g5 k h),Nat.le_trans g6 k6,(hk.trans (fun _ h=>h) g7).trans g5 k7⟩
def AtEnd(P:Program)(E:List String)(Post:Value->World->Prop)(fr:Frame)(u:World):Prop:=
 FrOk P E fr/\CleanH (clL P E) u/\fr.mode=.returning/\fr.defers=[]/\∃ fn τ v,P.funcs[fr.fn]?=some fn/\(results fn fr.tmps).run (ofF P (maskF P E)) (onT u τ u.drawn)=.ok v (onT u τ u.drawn)/\Post v (onT u τ u.drawn)
theorem whole(hE:Ext P E)(hA:Alike P F E D)(hD:DriveFw P F E D f Post)(hfD:f≠D){fr:Frame}{frs:List Frame}{u:World}(hI:Inev P E f Post fr frs u):
  Bas (fr :: frs)->∀ Inb J n W m T,Co (ofF P F) Inb J n fr frs u W m T->∃ fr' u' J' n' W' m' T',AtEnd P E Post fr' u'/\fr'.fn=f/\Rch (ofF P F) m T m' T'/\Co (ofF P F) Inb J' n' fr' [] u' W' m' T'/\(∀ k,J k->J' k)/\Kp J W W':=by
 refine inev_strong (C:=fun fr frs u=>Bas (fr :: frs)->∀ Inb J n W m T,Co (ofF P F) Inb J n fr frs u W m T->∃ fr' u' J' n' W' m' T',AtEnd P E Post fr' u'/\fr'.fn=f/\Rch (ofF P F) m T m' T'/\Co (ofF P F) Inb J' n' fr' [] u' W' m' T'/\(∀ k,J k->J' k)/\Kp J W W') (fun fr frs u hI ih=>?_) hI
 intro hb Inb J n W m T hC
 by_cases hpop:frs=[]/\fr.mode≠.run/\fr.defers=[]
 ·obtain⟨rfl,hm,hd⟩:=hpop
  have hbase:=hI.cl.base
  cases hI with
  | done hc hm hd fn hfn τ hτ v hr hp=>
    exact⟨fr,u,J,n,W,m,T,⟨hc.ok,hc.clean,hm,hd,fn,τ,v,hfn,hr,hp⟩,by simpa using congrArg (Option.map Prod.fst) hbase,.refl _ _ _,hC,fun _ h=>h,.refl _ _⟩
  | step hc hp=>exact absurd ⟨rfl,hm,hd⟩ hp
 ·have hI':Inev P E f Post fr (frs ++ []) u:=by rwa [List.append_nil]
  have hC':Co (ofF P F) Inb J n fr (frs ++ []) u W m T:=by rwa [List.append_nil]
  obtain⟨fr1,top1,u1,W1,m1,T1,rf1,h1,h2,h3,hr,hk,hC1,h4⟩:=top_step hE hA hI' hb hpop hC'
  simp only[List.append_nil]at h1 h2 hC1
  rcases h4 with rfl |⟨args,rfl,rfl⟩
  ·obtain⟨fr',u',J',n',W',m',T',g1,g2,g3,g4,g5,g6⟩:=ih _ _ _ (.one h1) h2 h3 Inb J n W1 m1 T1 hC1
   exact⟨fr',u',J',n',W',m',T',g1,g2,hr.trans g3,g4,g5,hk.trans (fun _ h=>h) g6⟩
  ·cases top1 with
   | nil=>
     have:=h2.cl.base
     exact absurd (by simpa[Frame.enter]using congrArg (Option.map Prod.fst) this.symm) hfD
   | cons t ts=>
     obtain⟨v,u',J',n',W',m',T',g1,g2,g3,g4,g5,g6,g7⟩:=hD args t ts u1 h2 (fun _ _ _ hl hi=>above hE hA hD hi) t ts Inb J n W1 m1 T1 hC1
     obtain⟨fr',u2,J2,n2,W2,m2,T2,k1,k2,k3,k4,k5,k6⟩:=ih _ _ _ (.more h1 g1) g2 (h3.below.finish v) Inb J' n' W' m' T' g4
     exact⟨fr',u2,J2,n2,W2,m2,T2,k1,k2,(hr.trans g3).trans k3,k4,fun k h=>k5 k (g5 k h),(hk.trans (fun _ h=>h) g7).trans g5 k6⟩
end
def fD(D:FuncId)(t:Array Value)(k:List Item):Frame:={fn:=D,tmps:=t,todo:=k,defers:=[],mode:=.run,kind:=.normal}
def ctl1:List Item->Option (List Item)
 | .code .skip :: k | .inBlock _ :: k | .inRegion _ [] :: k=>some k
 | .code (.seq a b) :: k=>some (.code a :: .code b :: k)
 | .code (.block id b) :: k=>some (.code b :: .inBlock id :: k)
 | .code (.loop b) :: k | .inLoop b :: k=>some (.code b :: .inLoop b :: k)
 | .code (.exit id) :: k=>exitTo id k
 | .code (.region _ ops false) :: k=>some (.inRegion ops (List.range ops.size) :: k)
 | _=>none
def ctlN:Nat->List Item->Option (List Item)
 | 0,k=>some k
 | n+1,k=>(ctl1 k).bind (ctlN n)
theorem exec_main{fr:Frame}(hm:fr.mode=.run)(X:Program)(main:Bool)(cs:List Frame)(w:World):stepG X main (mkG fr cs) w=stepG.exec X main true fr cs none w:=by
 obtain⟨a,b,c,d,m,k,r⟩:=fr
 simp only at hm
 subst hm
 rfl
theorem ctl1_step{D:FuncId}{t:Array Value}{k k':List Item}(h:ctl1 k=some k')(X:Program)(main:Bool)(cs:List Frame)(w:World):stepG X main (mkG (fD D t k) cs) w=.go (mkG (fD D t k') cs) w #[]:=by
 unfold ctl1 at h
 split at h <;> first | (cases h;rfl) | cases h | skip
 rename_i id k
 rw[exec_main rfl,stepG.exec]
 simp only[fD,h]
 rfl
structure Pt where
 gk:List Item
 rk:List Item
 gt:Array Value
 rt:Array Value
 u:World
 W:World
 m:Machine
 T:Trace
 J:Nat->Prop
 n:Nat
section
variable {P:Program} {F:Array Func} {E:List String} {D f:FuncId} {Post:Value->World->Prop} {c c':Frame} {gs rs:List Frame} {Inb:Nat->Option Seat}
structure Pt.Ok(P:Program)(F:Array Func)(E:List String)(D f:FuncId)(Post:Value->World->Prop)(c c':Frame)(gs rs:List Frame)(Inb:Nat->Option Seat)(s:Pt):Prop where
 inev:Inev P E f Post (fD D s.gt s.gk) (c :: gs) s.u
 co:Co (ofF P F) Inb s.J s.n (fD D s.rt s.rk) (c' :: rs) s.u s.W s.m s.T
structure Way(P:Program)(F:Array Func)(E:List String)(D:FuncId)(c:Frame)(gs:List Frame)(J0:Nat->Prop)(s s':Pt):Prop where
 ltr:(s'.gt=s.gt/\s'.gk=s.gk/\s'.u=s.u)\/Ltr P E (fD D s.gt s.gk) (c :: gs) s.u (fD D s'.gt s'.gk) (c :: gs) s'.u
 rch:Rch (ofF P F) s.m s.T s'.m s'.T
 sub:∀ k,s.J k->s'.J k
 le:s.n<=s'.n
 kp:Kp J0 s.W s'.W
theorem Way.refl{J0:Nat->Prop}(s:Pt):Way P F E D c gs J0 s s:=⟨.inl ⟨rfl,rfl,rfl⟩,.refl _ _ _,fun _ h=>h,Nat.le_refl _,.refl _ _⟩
theorem Way.trans{J0:Nat->Prop}{s s1 s2:Pt}(h:Way P F E D c gs J0 s s1)(h2:Way P F E D c gs J0 s1 s2):Way P F E D c gs J0 s s2:=by
 refine⟨?_,h.rch.trans h2.rch,fun k hk=>h2.sub k (h.sub k hk),Nat.le_trans h.le h2.le,h.kp.trans (fun _ h=>h) h2.kp⟩
 rcases h.ltr with ⟨a1,a2,a3⟩ | h1 <;> rcases h2.ltr with ⟨b1,b2,b3⟩ | h3
 ·exact .inl ⟨b1.trans a1,b2.trans a2,b3.trans a3⟩
 ·rw[a1,a2,a3]at h3
  exact .inr h3
 ·rw[b1,b2,b3]
  exact .inr h1
 ·exact .inr (h1.trans h3)
theorem Way.weak{J0 J1:Nat->Prop}{s s1:Pt}(hJ:∀ k,J0 k->J1 k)(h:Way P F E D c gs J1 s s1):Way P F E D c gs J0 s s1:=⟨h.ltr,h.rch,h.sub,h.le,h.kp.os,h.kp.output,fun k hk=>h.kp.block k (hJ k hk)⟩
def Fwd(P:Program)(F:Array Func)(E:List String)(D f:FuncId)(Post:Value->World->Prop)(c:Frame)(gs:List Frame)(s:Pt):Prop:=
 ∀ fr' frs' u',Ltr P E (fD D s.gt s.gk) (c :: gs) s.u fr' frs' u'->Inev P E f Post fr' frs' u'->Above P F E f Post fr' frs' u'
theorem Fwd.way{J0:Nat->Prop}{s s1:Pt}(h:Fwd P F E D f Post c gs s)(hw:Way P F E D c gs J0 s s1):Fwd P F E D f Post c gs s1:=fun fr' frs' u' hl hi=>by
 rcases hw.ltr with ⟨a1,a2,a3⟩ | h1
 ·exact h _ _ _ (by rw[<-a1,<-a2,<-a3];exact hl) hi
 ·exact h _ _ _ (h1.trans hl) hi
theorem Inev.turn{fr fr1:Frame}{frs frs1:List Frame}{u:World}(h:Inev P E f Post fr frs u)(hn:¬(frs=[]/\fr.mode≠.run/\fr.defers=[]))(ht:∀ cs w,stp fr frs (ofF P (maskF P E)) cs w=.go (mkG fr1 (frs1 ++ cs)) w #[]):Nxt P E fr frs u fr1 frs1 u/\Inev P E f Post fr1 frs1 u:=by
 have hA:Agree u u.tape:=fun _ _=>rfl
 obtain⟨a,az,u1,h1,h2,hK,hS⟩:=h.next hn hA
 obtain⟨rfl,rfl,rfl⟩:=cstep_det hS hK (CStep.turn (u:=onT u u.tape u.drawn) ht) ⟨rfl,rfl,rfl,Nat.le_refl _,h.cl.clean⟩
 exact⟨h1,h2⟩
theorem fD_runs{t:Array Value}{k:List Item}:¬(c :: gs=[]/\(fD D t k).mode≠.run/\(fD D t k).defers=[]):=fun h=>by cases h.1
theorem gh_turns(a:Nat){gk:List Item}{s:Pt}(h:s.Ok P F E D f Post c c' gs rs Inb)(ha:ctlN a s.gk=some gk):Pt.Ok P F E D f Post c c' gs rs Inb {s with gk:=gk}/\Way P F E D c gs s.J s {s with gk:=gk}:=by
 induction a generalizing s with
 | zero=>
   obtain rfl:=Option.some.inj ha
   exact⟨h,.refl _⟩
 | succ a ih=>
   unfold ctlN at ha
   cases hk:ctl1 s.gk with
   | none=>rw [hk]at ha;cases ha
   | some k1=>
     rw[hk]at ha
     obtain⟨h1,h2⟩:=h.inev.turn fD_runs (fun cs w=>ctl1_step hk _ true _ w)
     obtain⟨h3,h4⟩:=ih (s:={s with gk:=k1}) ⟨h2,h.co⟩ ha
     exact⟨h3,Way.trans (s1:={s with gk:=k1}) ⟨.inr (.one h1),.refl _ _ _,fun _ h=>h,Nat.le_refl _,.refl _ _⟩ h4⟩
theorem co_turn{R:Program}{J:Nat->Prop}{n:Nat}{rf rf1:Frame}{rfs rfs1:List Frame}{u W:World}{m:Machine}{T:Trace}(hC:Co R Inb J n rf rfs u W m T)(ht:∀ cs w,stp rf rfs R cs w=.go (mkG rf1 (rfs1 ++ cs)) w #[]):
  ∃ W1 m1 T1,Rch R m T m1 T1/\Co R Inb J n rf1 rfs1 u W1 m1 T1/\Kp J W W1:=by
 obtain⟨_,_,u1,W1,m1,T1,⟨rfl,rfl,h1,h2⟩,hr,hC1,hk⟩:=co_one hC (Φ:=fun a az u1=>a=rf1/\az=rfs1/\u1.heap=u.heap/\u1.os=u.os) fun τ _=>⟨rf1,rfs1,onT u τ u.drawn,⟨rfl,rfl,rfl,rfl⟩,CStep.turn ht⟩
 exact⟨W1,m1,T1,hr,⟨hC1.ex,hC1.sim.of_heap h1.symm rfl h2.symm rfl,hC1.seats,hC1.zero,hC1.high⟩,hk⟩
theorem re_turns(b:Nat){rk:List Item}{s:Pt}(h:s.Ok P F E D f Post c c' gs rs Inb)(hb:ctlN b s.rk=some rk):∃ W m T,Pt.Ok P F E D f Post c c' gs rs Inb {s with rk:=rk,W:=W,m:=m,T:=T}/\Way P F E D c gs s.J s {s with rk:=rk,W:=W,m:=m,T:=T}:=by
 induction b generalizing s with
 | zero=>
   obtain rfl:=Option.some.inj hb
   exact⟨s.W,s.m,s.T,h,.refl _⟩
 | succ b ih=>
   unfold ctlN at hb
   cases hk:ctl1 s.rk with
   | none=>rw [hk]at hb;cases hb
   | some k1=>
     rw[hk]at hb
     obtain⟨W1,m1,T1,h1,h2,h3⟩:=co_turn h.co (fun cs w=>ctl1_step hk _ true _ w)
     obtain⟨W2,m2,T2,h4,h5⟩:=ih (s:={s with rk:=k1,W:=W1,m:=m1,T:=T1}) ⟨h.inev,h2⟩ hb
     exact⟨W2,m2,T2,h4,Way.trans (s1:={s with rk:=k1,W:=W1,m:=m1,T:=T1}) ⟨.inl ⟨rfl,rfl,rfl⟩,h1,fun _ h=>h,Nat.le_refl _,h3⟩ h5⟩
theorem turns(a b:Nat){gk rk:List Item}{s:Pt}(h:s.Ok P F E D f Post c c' gs rs Inb)(ha:ctlN a s.gk=some gk)(hb:ctlN b s.rk=some rk):∃ W m T,Pt.Ok P F E D f Post c c' gs rs Inb {s with gk:=gk,rk:=rk,W:=W,m:=m,T:=T}/\Way P F E D c gs s.J s {s with gk:=gk,rk:=rk,W:=W,m:=m,T:=T}:=by
 obtain⟨h1,h2⟩:=gh_turns a h ha
 obtain⟨W,m,T,h3,h4⟩:=re_turns b h1 hb
 exact⟨W,m,T,h3,h2.trans h4⟩
theorem cond_step{t:Array Value}{o:Operand}{a b:Code}{k:List Item}{v:Bool}(h:(fD D t []).eval o=.bool v)(X:Program)(main:Bool)(cs:List Frame)(w:World):stepG X main (mkG (fD D t (.code (.cond o a b) :: k)) cs) w=.go (mkG (fD D t (.code (if v then a else b) :: k)) cs) w #[]:=by
 have h:(fD D t (.code (.cond o a b) :: k)).eval o=.bool v:=h
 rw[exec_main rfl,stepG.exec]
 simp only[fD]at h ⊢
 simp only[h]
 rfl
theorem cond_both{s:Pt}(h:s.Ok P F E D f Post c c' gs rs Inb){o:Operand}{a b a' b':Code}{kg kr:List Item}(hg:s.gk=.code (.cond o a b) :: kg)(hr:s.rk=.code (.cond o a' b') :: kr)(he:(fD D s.rt []).eval o=(fD D s.gt []).eval o):
  ∃ v W m T,(fD D s.gt []).eval o=.bool v/\Pt.Ok P F E D f Post c c' gs rs Inb {s with gk:=.code (if v then a else b) :: kg,rk:=.code (if v then a' else b') :: kr,W:=W,m:=m,T:=T}/\Way P F E D c gs s.J s {s with gk:=.code (if v then a else b) :: kg,rk:=.code (if v then a' else b') :: kr,W:=W,m:=m,T:=T}:=by
 have hi:=h.inev
 have hc:=h.co
 rw[hg]at hi
 rw[hr]at hc
 have hb:∃ v,(fD D s.gt []).eval o=.bool v:=by
  refine Classical.byContradiction fun hn=>?_
  obtain⟨_,_,_,_,_,hK,hS⟩:=hi.next (τ:=s.u.tape) fD_runs fun _ _=>rfl
  refine not_lost (gb:=c :: gs) (top:=[]) (fun cs=>?_) hS hK
  have e:stp (fD D s.gt (.code (.cond o a b) :: kg)) [] (ofF P (maskF P E)) cs (onT s.u s.u.tape s.u.drawn)=stepG.exec (ofF P (maskF P E)) true true (fD D s.gt (.code (.cond o a b) :: kg)) cs none (onT s.u s.u.tape s.u.drawn):=rfl
  rw[e,stepG.exec]
  simp only[fD]
  split
  ·rename_i v hv
   exact absurd ⟨v,hv⟩ hn
  ·exact⟨_,_,_,rfl⟩
 obtain⟨v,hv⟩:=hb
 obtain⟨h1,h2⟩:=hi.turn fD_runs (fun cs w=>cond_step hv _ true _ w)
 obtain⟨W1,m1,T1,h3,h4,h5⟩:=co_turn hc (fun cs w=>cond_step (he.trans hv) _ true _ w)
 refine⟨v,W1,m1,T1,hv,⟨h2,h4⟩,⟨.inr (.one ?_),h3,fun _ h=>h,Nat.le_refl _,h5⟩⟩
 rw[hg]
 exact h1
theorem andThen_ok{α β:Type}{r:Result α}{g:α->World->Result β}{b:β}{w1:World}(h:r.andThen g=.ok b w1):∃ a w,r=.ok a w/\g a w=.ok b w1:=by
 cases r with
 | ok a w=>exact ⟨a,w,rfl,h⟩
 | halt e w=>cases h
def simpleOp(D:FuncId):Op->Bool
 | .move _ | .assign _ | .makeChan .. | .extract .. | .alloc _ | .store .. | .nilCheck _ | .fieldAddr .. | .load .. | .binOp .. | .build .. | .pick .. | .indexAddr ..=>true
 | .call ⟨.builtin .len,_,_⟩=>true
 | .call ⟨.value (.func g),_,_⟩=>g != D
 | _=>false
def Simple(D:FuncId):Next->Prop
 | .value _ | .skip=>True
 | .enter g _=>g≠D
 | _=>False
theorem simple_v{s:Sem Value}{X:Program}{w w1:World}{nx:Next}(h:(do pure (Next.value (<-s)):Sem Next).run X w=.ok nx w1):Simple D nx:=by
 rw[Sem.run_bind]at h
 obtain⟨a,w',_,e⟩:=andThen_ok h
 cases e
 trivial
theorem simple_u{s:Sem Unit}{X:Program}{w w1:World}{nx:Next}(h:(do s;pure Next.skip:Sem Next).run X w=.ok nx w1):Simple D nx:=by
 rw[Sem.run_bind]at h
 obtain⟨a,w',_,e⟩:=andThen_ok h
 cases e
 trivial
theorem simple_p{v:Value}{X:Program}{w w1:World}{nx:Next}(h:(pure (Next.value v):Sem Next).run X w=.ok nx w1):Simple D nx:=by
 cases h
 trivial
theorem simple_call(hE:Ext P E){g:FuncId}(hg:g≠D){args:Array Value}{w w1:World}{nx:Next}(h:(callFunc g args).run (ofF P (maskF P E)) w=.ok nx w1):Simple D nx:=by
 unfold callFunc at h
 have hm:(ofF P (maskF P E)).funcs[g]?=_:=maskF_get (P:=P) (E:=E) g
 have h:(match (ofF P (maskF P E)).funcs[g]? with
  | none=>(stuck "call: no such function":Sem Next)
  | some fn=>_).run (ofF P (maskF P E)) w=.ok nx w1:=h
 cases hf:P.funcs[g]? with
 | none=>
   rw[hf,Option.map_none]at hm
   rw[hm]at h
   cases h
 | some fn=>
   rw[hf,Option.map_some]at hm
   have hn:=hE.num g fn hf
   cases hk:okFunc P E fn with
   | false=>
     rw[if_neg (by simp[hk])]at hm
     rw[hm]at h
     dsimp only at h
     rw[hn]at h
     cases h
     exact hg
   | true=>
     rw[if_pos hk]at hm
     rw[hm]at h
     dsimp only at h
     rw[hn]at h
     cases hb:fn.body with
     | some c=>
       rw[hb]at h
       cases h
       exact hg
     | none=>
       have hc:E.contains fn.name=true:=by simpa only[okFunc,hb]using hk
       obtain⟨e1,e,e2,_⟩:=hE.ext g fn hf hb hc
       rw[hb]at h
       simp only[Option.isNone_none,if_true,e1,e2,Bool.false_eq_true,if_false]at h
       rw[Sem.run_bind]at h
       obtain⟨_,w2,_,h⟩:=andThen_ok h
       exact simple_v h
theorem simple_res(hE:Ext P E){t:Array Value}{k:List Item}{o:Oper}(ho:simpleOp D o.op=true){w w1:World}{nx:Next}(h:(execOp (fD D t k).eval o).run (ofF P (maskF P E)) w=.ok nx w1):Simple D nx:=by
 obtain⟨dst,op,type,pos,after,guard⟩:=o
 unfold execOp at h
 cases op <;> first | (exfalso;simp[simpleOp]at ho;done) | exact simple_v h | exact simple_u h | exact simple_p h | skip
 case nilCheck=>
  dsimp only at h
  split at h
  ·cases h
  ·cases h
  ·cases h
  ·split at h
   ·cases h
   ·rw[Sem.run_bind]at h
    obtain⟨_,_,_,h⟩:=andThen_ok h
    rw[Sem.run_bind]at h
    obtain⟨_,_,_,h⟩:=andThen_ok h
    split at h
    ·cases h
    ·exact simple_p h
   ·exact simple_p h
  ·exact simple_p h
 case pick=>
  dsimp only at h
  rw[Sem.run_bind]at h
  obtain⟨_,_,_,h⟩:=andThen_ok h
  cases h
  trivial
 case call cl=>
  obtain⟨callee,az,ts⟩:=cl
  cases callee with
  | invoke r n=>simp [simpleOp]at ho
  | builtin b=>cases b <;> first | (exfalso;simp[simpleOp]at ho;done) | exact simple_v h
  | value x=>
    cases x with
    | func g=>
      have hg:g≠D:=by simpa[simpleOp]using ho
      exact simple_call hE hg h
    | _=>simp [simpleOp]at ho
end
section
variable {X:Program} {fr:Frame} {frs:List Frame} {s:Sem Next} {u u1:World}
theorem apply_value{v:Value}(hk:fr.kind=.normal)(hst:∀ cs w,stp fr frs X cs w=stepG.apply X true fr (frs ++ cs) none s w)(m:Mir X s u u1 (.ok (.value v) u1)):CStep (stp fr frs) X u (fr.finish v) frs u1:=by
 have he:(fr.kind == .early)=false:=by rw[hk];rfl
 exact CStep.ofMir m fun cs w w1 es e=>⟨_,by rw[hst,stepG.apply];simp only[if_true,e,he];rfl,fun e he=>mem_seen (by simpa using he)⟩
theorem apply_skip(hk:fr.kind=.normal)(hst:∀ cs w,stp fr frs X cs w=stepG.apply X true fr (frs ++ cs) none s w)(m:Mir X s u u1 (.ok .skip u1)):CStep (stp fr frs) X u (fr.finish undef) frs u1:=by
 have he:(fr.kind == .early)=false:=by rw[hk];rfl
 exact CStep.ofMir m fun cs w w1 es e=>⟨_,by rw[hst,stepG.apply];simp only[if_true,e,he];rfl,fun e he=>mem_seen (by simpa using he)⟩
theorem apply_panic{v:Value}(hk:fr.kind=.normal)(hst:∀ cs w,stp fr frs X cs w=stepG.apply X true fr (frs ++ cs) none s w)(m:Mir X s u u1 (.halt (.panic v) u1)):CStep (stp fr frs) X u (fr.raise [{v,recovered:=false}]) frs u1:=by
 have he:(fr.kind == .early)=false:=by rw[hk];rfl
 exact CStep.ofMirP m fun cs w w1 es e=>⟨_,by rw[hst,stepG.apply];simp only[if_true,e,he];rfl,fun e he=>mem_seen (by simpa using he)⟩
theorem apply_enter{g:FuncId}{args:Array Value}(hk:fr.kind=.normal)(hnc:∀ d b r a k,fr.todo≠.call d b r a :: k)(hst:∀ cs w,stp fr frs X cs w=stepG.apply X true fr (frs ++ cs) none s w)(m:Mir X s u u1 (.ok (.enter g args) u1)):CStep (stp fr frs) X u (Frame.enter X g args .normal) (fr :: frs) u1:=by
 have he:(fr.kind == .early)=false:=by rw[hk];rfl
 exact CStep.ofMir m fun cs w w1 es e=>⟨seen X fr.fn es ++ #[],by
  rw[hst,stepG.apply]
  simp only[if_true,e,he,Bool.false_eq_true,if_false]
  split
  ·rename_i e2
   exact absurd e2 (hnc _ _ _ _ _)
  ·rfl,fun e he=>mem_seen (by simpa using he)⟩
theorem apply_lost{h:Halt}(hk:fr.kind=.normal)(hE:Ends h)(hst:∀ cs w,stp fr frs X cs w=stepG.apply X true fr (frs ++ cs) none s w)(hr:s.run X u=.halt h u1):Lost (stp fr frs) X u:=by
 have he:(fr.kind == .early)=false:=by rw[hk];rfl
 intro cs
 rw[hst,stepG.apply]
 have e1:=runT_fst X s u #[]
 cases hrt:s.runT X u #[]with
 | mk r es2=>
   rw[hrt,hr]at e1
   subst e1
   simp only[if_true,hrt,he]
   cases h <;> first | exact hE.elim | exact⟨_,_,_,rfl⟩ | skip
   rename_i us
   cases us <;> first | exact hE.elim | exact⟨_,_,_,rfl⟩
end
def putT(t:Array Value)(d:Option Nat)(v:Value):Array Value:=match d with | some d=>t.setIfInBounds d v | none=>t
section
variable {P:Program} {F:Array Func} {E:List String} {D f:FuncId} {Post:Value->World->Prop} {c c':Frame} {gs rs:List Frame} {Inb:Nat->Option Seat}
theorem fD_finish{t:Array Value}{ops:Array Oper}{i:Nat}{rest:List Nat}{k:List Item}{o:Oper}(ho:ops[i]?=some o)(v:Value):(fD D t (.inRegion ops (i :: rest) :: k)).finish v=fD D (putT t o.dst v) (.inRegion ops rest :: k):=by
 unfold Frame.finish fD putT
 dsimp only
 rw[ho]
 cases h:o.dst with
 | none=>simp only[Option.bind_some,h]
 | some d=>simp only[Option.bind_some,h]
theorem fD_op{t:Array Value}{ops:Array Oper}{i:Nat}{rest:List Nat}{k:List Item}{o:Oper}(ho:ops[i]?=some o)(hw:Region.wanted o (yielded ops t)=true)(X:Program)(main:Bool)(cs:List Frame)(w:World):
  stepG X main (mkG (fD D t (.inRegion ops (i :: rest) :: k)) cs) w=stepG.apply X true (fD D t (.inRegion ops (i :: rest) :: k)) cs none (execOp (fD D t []).eval o) w:=by
 rw[exec_main rfl,stepG.exec]
 have hop:(fD D t (.inRegion ops (i :: rest) :: k)).oper?=some o:=ho
 simp only[fD,ho,Option.map_some,Option.getD_some,hw,if_true]at hop ⊢
 rw[stepG.oper]
 simp only[hop]
 rfl
theorem fD_unw{t:Array Value}{ops:Array Oper}{i:Nat}{rest:List Nat}{k:List Item}{o:Oper}(ho:ops[i]?=some o)(hw:Region.wanted o (yielded ops t)=false)(X:Program)(main:Bool)(cs:List Frame)(w:World):
  stepG X main (mkG (fD D t (.inRegion ops (i :: rest) :: k)) cs) w=.go (mkG (fD D (putT t o.dst undef) (.inRegion ops rest :: k)) cs) w #[]:=by
 rw[exec_main rfl,stepG.exec,<-fD_finish ho]
 simp only[fD,ho,Option.map_some,Option.getD_some,hw]
 rfl
def YldV(R:Program)(s:Sem Next)(u:World)(v:Value)(u':World):Prop:=
 ∃ τ nx,s.run R (onT u τ u.drawn)=.ok nx u'/\(nx=.value v\/nx=.skip/\v=undef)
theorem mir_run{X:Program}{α:Type}{cl:Loop->Prop}{s:Sem α}{w w1:World}{a:α}(m:Mir X s w w1 (.ok a w1))(hk:Kpt cl w w1):s.run X w=.ok a w1:=by
 obtain⟨n,hd,h⟩:=m.out
 obtain⟨W1,es,e,hS,_,hu,_⟩:=h (fun _=>False) w w.tape w.drawn #[] (Sim.refl _) fun _ _ _=>rfl
 have hw:onT W1 w.tape (w.drawn+n)=w1:=by rw[world_eq hS (hu.trans hk.output.symm),<-hk.tape,<-hd];rfl
 have e2:=congrArg Prod.fst e
 rw[runT_fst]at e2
 exact e2.trans (by rw[reW,hw])
def YldE(P:Program)(E:List String)(s:Sem Next)(u:World):Prop:=∃ τ g args w1,s.run (ofF P (maskF P E)) (onT u τ u.drawn)=.ok (.enter g args) w1
theorem op_both(hE:Ext P E)(hA:Alike P F E D){s:Pt}(h:s.Ok P F E D f Post c c' gs rs Inb)(ih:Fwd P F E D f Post c gs s)
  {ops ops':Array Oper} {i:Nat} {rest:List Nat} {kg kr:List Item} (hg:s.gk=.inRegion ops (i :: rest) :: kg) (hr:s.rk=.inRegion ops' (i :: rest) :: kr) {o o':Oper} (ho:ops[i]?=some o) (ho':ops'[i]?=some o') (hk:okOp P o.op=true) (hs:simpleOp D o.op=true)
  (hw:Region.wanted o (yielded ops s.gt)=true) (hw':Region.wanted o' (yielded ops' s.rt)=true) (he:execOp (fD D s.rt []).eval o'=execOp (fD D s.gt []).eval o):
  ∃ v u' W m T J n,Pt.Ok P F E D f Post c c' gs rs Inb ⟨.inRegion ops rest :: kg,.inRegion ops' rest :: kr,putT s.gt o.dst v,putT s.rt o'.dst v,u',W,m,T,J,n⟩/\Way P F E D c gs s.J s ⟨.inRegion ops rest :: kg,.inRegion ops' rest :: kr,putT s.gt o.dst v,putT s.rt o'.dst v,u',W,m,T,J,n⟩/\((J=s.J/\n=s.n/\YldV (ofF P F) (execOp (fD D s.gt []).eval o) s.u v u')\/YldE P E (execOp (fD D s.gt []).eval o) s.u):=by
 have hi:=h.inev
 have hc:=h.co
 unfold Fwd at ih
 rw[hg]at hi ih
 rw[hr]at hc
 have stG:∀ X cs w,stp (fD D s.gt (.inRegion ops (i :: rest) :: kg)) (c :: gs) X cs w=stepG.apply X true (fD D s.gt (.inRegion ops (i :: rest) :: kg)) ((c :: gs) ++ cs) none (execOp (fD D s.gt []).eval o) w:=fun X cs w=>fD_op ho hw X true _ w
 have stR:∀ X cs w,stp (fD D s.rt (.inRegion ops' (i :: rest) :: kr)) (c' :: rs) X cs w=stepG.apply X true (fD D s.rt (.inRegion ops' (i :: rest) :: kr)) ((c' :: rs) ++ cs) none (execOp (fD D s.gt []).eval o) w:=fun X cs w=>by rw[<-he];exact fD_op ho' hw' X true _ w
 have tG:=tn_execOp (F:=P.funcs) hE hA.self (fD D s.gt []).eval (fun _=>rfl) o hk
 have tR:=tn_execOp (F:=F) hE hA (fD D s.gt []).eval (fun _=>rfl) o hk
 obtain⟨a,az,u1,W1,m1,T1,hΦ,hrc,hC1,hkp⟩:=co_one hc (Φ:=fun a az u1=>
   (∃ v,a=fD D (putT s.rt o'.dst v) (.inRegion ops' rest :: kr)/\az=c' :: rs/\Nxt P E (fD D s.gt (.inRegion ops (i :: rest) :: kg)) (c :: gs) s.u (fD D (putT s.gt o.dst v) (.inRegion ops rest :: kg)) (c :: gs) u1/\Inev P E f Post (fD D (putT s.gt o.dst v) (.inRegion ops rest :: kg)) (c :: gs) u1/\YldV (ofF P F) (execOp (fD D s.gt []).eval o) s.u v u1)\/
   (∃ g args,a=Frame.enter P g args .normal/\az=fD D s.rt (.inRegion ops' (i :: rest) :: kr) :: c' :: rs/\Nxt P E (fD D s.gt (.inRegion ops (i :: rest) :: kg)) (c :: gs) s.u (Frame.enter P g args .normal) (fD D s.gt (.inRegion ops (i :: rest) :: kg) :: c :: gs) u1/\Inev P E f Post (Frame.enter P g args .normal) (fD D s.gt (.inRegion ops (i :: rest) :: kg) :: c :: gs) u1/\YldE P E (execOp (fD D s.gt []).eval o) s.u)) fun τ hτ=>by
  obtain⟨b,bs,w1,hN,hI1,hK,hS⟩:=hi.next fD_runs hτ
  have h1:=TameS.sound (X:=ofF P (maskF P E)) (own:=True) (.inl ⟨rfl,trivial⟩) (tG fun _=>False) (onT s.u τ s.u.drawn) hi.cl.clean fun k h=>h.elim
  have h3:=TameS.sound (X:=ofF P F) (own:=False) (.inr ⟨rfl,id⟩) (tR fun _=>False) (onT s.u τ s.u.drawn) hi.cl.clean fun k h=>h.elim
  cases hrn:(execOp (fD D s.gt []).eval o).run (ofF P (maskF P E)) (onT s.u τ s.u.drawn)with
  | ok nx u1=>
    rw[hrn]at h1 h3
    obtain⟨⟨N',hq,_⟩,hK1,m1⟩:=h1
    obtain⟨_,_,m3⟩:=h3
    have m1:=m1.resolve_left fun h=>h.1 trivial
    have m3:BadN P E nx\/Mir (ofF P F) (execOp (fD D s.gt []).eval o) (onT s.u τ s.u.drawn) u1 (.ok nx u1):=m3.imp And.right id
    have hq:=hq.2
    have hsi:=simple_res hE hs hrn
    cases nx with
    | value v=>
      have c1:=apply_value rfl (stG _) m1
      have hy:=mir_run (m3.resolve_left id) hK1
      have c3:=apply_value rfl (stR _) (m3.resolve_left id)
      rw[fD_finish ho]at c1
      rw[fD_finish ho']at c3
      obtain⟨rfl,rfl,rfl⟩:=cstep_det hS hK c1 hK1
      exact⟨_,_,_,.inl ⟨v,rfl,rfl,hN,hI1,τ,.value v,hy,.inl rfl⟩,c3⟩
    | skip=>
      have c1:=apply_skip rfl (stG _) m1
      have hy:=mir_run (m3.resolve_left id) hK1
      have c3:=apply_skip rfl (stR _) (m3.resolve_left id)
      rw[fD_finish ho]at c1
      rw[fD_finish ho']at c3
      obtain⟨rfl,rfl,rfl⟩:=cstep_det hS hK c1 hK1
      exact⟨_,_,_,.inl ⟨undef,rfl,rfl,hN,hI1,τ,.skip,hy,.inr ⟨rfl,rfl⟩⟩,c3⟩
    | enter g args=>
      have c1:=apply_enter rfl (fun d b r a k e=>by cases e) (stG _) m1
      obtain⟨fn,hfn⟩:=hq
      obtain⟨rfl,rfl,rfl⟩:=cstep_det hS hK c1 hK1
      cases hof:okFunc P E fn with
      | false=>
        exfalso
        obtain⟨fn',h1,h2⟩:=hI1.cl.ok.fn
        rw[show (Frame.enter (ofF P (maskF P E)) g args .normal).fn=g from rfl,hfn]at h1
        obtain rfl:=Option.some.inj h1
        rw[hof]at h2
        cases h2
      | true=>
        have m3:=m3.resolve_left fun ⟨fn',h1,h2⟩=>by
         rw[hfn]at h1
         obtain rfl:=Option.some.inj h1
         rw[hof]at h2;cases h2
        have c3:=apply_enter rfl (fun d b r a k e=>by cases e) (stR _) m3
        rw[show Frame.enter (ofF P F) g args .normal=Frame.enter P g args .normal from by unfold Frame.enter;dsimp only;rw[hA.same g hsi]]at c3
        rw[enter_eq hfn hof]at hN hI1
        exact⟨_,_,_,.inr ⟨g,args,rfl,rfl,hN,hI1,⟨τ,g,args,_,hrn⟩⟩,c3⟩
    | _=>exact hsi.elim
  | halt e u1=>
    exfalso
    rw[hrn]at h1
    by_cases hp:∃ v,e=.panic v
    ·obtain⟨v,rfl⟩:=hp
     obtain⟨hK1,m1⟩:=h1
     have c1:=apply_panic rfl (stG _) m1
     obtain⟨rfl,rfl,rfl⟩:=cstep_det hS hK c1 hK1
     exact no_panic hI1 _ rfl
    ·have hEn:Ends e:=by cases e <;> first | exact h1 | exact absurd ⟨_,rfl⟩ hp
     exact not_lost (top:=c :: gs) (gb:=[]) (apply_lost rfl hEn (stG _) hrn) (by rwa [List.append_nil]) hK
 rcases hΦ with ⟨v,rfl,rfl,hN,hI1,hy⟩ |⟨g,args,rfl,rfl,hN,hI1,hy⟩
 ·refine⟨v,u1,W1,m1,T1,s.J,s.n,⟨hI1,hC1⟩,⟨.inr ?_,hrc,fun _ h=>h,Nat.le_refl _,hkp⟩,.inl ⟨rfl,rfl,hy⟩⟩
  rw[hg]
  exact .one hN
 ·obtain⟨v,u',J',n',W',m',T',g1,g2,g3,g4,g5,g6,g7⟩:=ih _ _ _ (.one hN) hI1 [] (fD D s.gt (.inRegion ops (i :: rest) :: kg)) (c :: gs) rfl rfl (fD D s.rt (.inRegion ops' (i :: rest) :: kr)) (c' :: rs) Inb s.J s.n W1 m1 T1 hC1
  rw[fD_finish ho]at g1 g2
  rw[fD_finish ho']at g4
  refine⟨v,u',W',m',T',J',n',⟨g2,g4⟩,⟨.inr ?_,hrc.trans g3,g5,g6,hkp.trans (fun _ h=>h) g7⟩,.inr hy⟩
  rw[hg]
  exact .more hN g1
end
end
end Go.Proofs.YticobikhndlejaaGreatDoor
