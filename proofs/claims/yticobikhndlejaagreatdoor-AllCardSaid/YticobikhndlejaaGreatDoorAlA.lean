/- Part 1 of the proof (see the last part). -/
import Derived.Conc.Events
namespace Go.Proofs.YticobikhndlejaaGreatDoor
section
open Go
def onT(w:World)(τ:Nat->Question->Nat)(d:Nat):World:={w with tape:=τ,drawn:=d}
@[simp] theorem onT_heap(w:World)(τ:Nat->Question->Nat)(d:Nat):(onT w τ d).heap=w.heap:=rfl
@[simp] theorem onT_tape(w:World)(τ:Nat->Question->Nat)(d:Nat):(onT w τ d).tape=τ:=rfl
@[simp] theorem onT_drawn(w:World)(τ:Nat->Question->Nat)(d:Nat):(onT w τ d).drawn=d:=rfl
theorem cell_onT(w:World)(τ:Nat->Question->Nat)(d:Nat)(a:Addr):(onT w τ d).cell? a=w.cell? a:=rfl
theorem frozen_onT(w:World)(τ:Nat->Question->Nat)(d:Nat)(a:Addr):(onT w τ d).frozen? a=w.frozen? a:=rfl
inductive EvOk(n:Nat):Event->Prop
 | cell (a:Addr) (wr sy:Bool) (h:a.block<n):EvOk n ⟨.cell a,wr,sy⟩
 | obj (r:Nat) (wr sy:Bool) (h:r<n):EvOk n ⟨.obj r,wr,sy⟩
 | room (wr sy:Bool):EvOk n ⟨.mark .noRoom,wr,sy⟩
 | extern (f:FuncId) (wr sy:Bool):EvOk n ⟨.mark (.extern f),wr,sy⟩
 | output (wr sy:Bool):EvOk n ⟨.output,wr,sy⟩
theorem EvOk.mono{n m:Nat}{e:Event}(h:EvOk n e)(hnm:n<=m):EvOk m e:=by
 cases h with
 | cell a wr sy h=>exact .cell a wr sy (Nat.lt_of_lt_of_le h hnm)
 | obj r wr sy h=>exact .obj r wr sy (Nat.lt_of_lt_of_le h hnm)
 | room wr sy=>exact .room wr sy
 | extern f wr sy=>exact .extern f wr sy
 | output wr sy=>exact .output wr sy
def Far:Obj->Prop
 | .cells .. | .view .. | .number ..=>False
 | _=>True
abbrev Jk:Obj:=.chan 0 #[] false 0 0 false
def Pair(z o:Obj):Prop:=(z=.coro none/\Far o)\/(z=Jk/\∃ cl a b,o=.chan 0 #[] cl a b false)
theorem Pair.far{z o:Obj}(h:Pair z o):Far z/\Far o:=by
 rcases h with ⟨rfl,h⟩ |⟨rfl,_,_,_,rfl⟩
 ·exact⟨trivial,h⟩
 ·exact⟨trivial,trivial⟩
structure Sim(J:Nat->Prop)(u W:World):Prop where
 os:W.os=u.os
 size:W.heap.size=u.heap.size
 same:∀ k,¬J k->W.heap[k]?=u.heap[k]?
 junk:∀ k,J k->(∃ z o,u.heap[k]?=some z/\W.heap[k]?=some o/\Pair z o)\/∃ t a,u.heap[k]?=some (.view ⟨k,0,none⟩ t)/\W.heap[k]?=some (.view a t)
theorem Sim.refl(u:World):Sim (fun _=>False) u u:=⟨rfl,rfl,fun _ _=>rfl,fun _ h=>h.elim⟩
theorem Sim.of_heap{J:Nat->Prop}{u W u' W':World}(h:Sim J u W)(e:u'.heap=u.heap)(e':W'.heap=W.heap)(o:u'.os=u.os)(o':W'.os=W.os):Sim J u' W':=⟨by rw[o,o'];exact h.os,by rw[e,e'];exact h.size,by rw[e,e'];exact h.same,by rw[e,e'];exact h.junk⟩
section
variable {J:Nat->Prop} {u W:World}
theorem Sim.at(h:Sim J u W)(k:Nat):W.heap[k]?=u.heap[k]?\/(∃ z o,u.heap[k]?=some z/\W.heap[k]?=some o/\Pair z o)\/∃ t a,u.heap[k]?=some (.view ⟨k,0,none⟩ t)/\W.heap[k]?=some (.view a t):=by
 by_cases hk:J k
 ·exact .inr (h.junk k hk)
 ·exact .inl (h.same k hk)
theorem Sim.lt(h:Sim J u W){k:Nat}(hk:J k):k<u.heap.size:=by
 rcases h.junk k hk with ⟨z,o,e,_⟩ |⟨t,a,e,_⟩ <;> exact (Array.getElem?_eq_some_iff.1 e).1
theorem Sim.cell(h:Sim J u W)(a:Addr):W.cell? a=u.cell? a:=by
 unfold World.cell?
 rcases h.at a.block with e |⟨z,o,e,hw,f⟩ |⟨t,b,e,hw⟩
 ·rw[e]
 ·rw[e,hw]
  rcases f with ⟨rfl,f⟩ |⟨rfl,_,_,_,rfl⟩
  ·cases o <;> first | rfl | exact f.elim
  ·rfl
 ·rw[e,hw]
theorem Sim.shape(h:Sim J u W)(r:Nat):W.shape? r=u.shape? r:=by
 unfold World.shape?
 rcases h.at r with e |⟨z,o,e,hw,f⟩ |⟨t,b,e,hw⟩
 ·rw[e]
 ·rw[e,hw]
  rcases f with ⟨rfl,f⟩ |⟨rfl,_,_,_,rfl⟩
  ·cases o <;> first | rfl | exact f.elim
  ·rfl
 ·rw[e,hw]
theorem Sim.frozen(h:Sim J u W)(a:Addr):W.frozen? a=u.frozen? a:=by
 unfold World.frozen?
 rcases h.at a.block with e |⟨z,o,e,hw,f⟩ |⟨t,b,e,hw⟩
 ·rw[e]
 ·rw[e,hw]
  rcases f with ⟨rfl,f⟩ |⟨rfl,_,_,_,rfl⟩
  ·cases o <;> first | rfl | exact f.elim
  ·rfl
 ·rw[e,hw]
theorem Sim.modify(h:Sim J u W)(b:Nat)(f:Obj->Obj)(hf:∀ o,(∀ c t z,o≠.cells c t z)->f o=o):Sim J {u with heap:=u.heap.modify b f} {W with heap:=W.heap.modify b f}:=by
 refine⟨h.os,by simp[h.size],fun k hk=>?_,fun k hk=>?_⟩
 ·simp only[Array.getElem?_modify]
  rw[h.same k hk]
 ·simp only[Array.getElem?_modify]
  rcases h.junk k hk with ⟨z,o,e,hw,fo⟩ |⟨t,a,e,hw⟩
  ·refine .inl ⟨z,o,?_,?_,fo⟩
   ·rw[e]
    split
    ·simp only[Option.map_some,Option.some.injEq]
     exact hf z fun c t y hz=>by have:=fo.far.1;rw[hz]at this;exact this
    ·rfl
   ·rw[hw]
    split
    ·simp only[Option.map_some,Option.some.injEq]
     exact hf o fun c t y hz=>by have:=fo.far.2;rw[hz]at this;exact this
    ·rfl
  ·refine .inr ⟨t,a,?_,?_⟩
   ·rw[e]
    split
    ·simp[hf (.view _ _) (fun _ _ _ z=>by cases z)]
    ·rfl
   ·rw[hw]
    split
    ·simp[hf (.view _ _) (fun _ _ _ z=>by cases z)]
    ·rfl
theorem Sim.setCell(h:Sim J u W)(a:Addr)(v:Value):Sim J (u.setCell a v) (W.setCell a v):=by
 unfold World.setCell
 refine h.modify _ _ fun o ho=>?_
 cases o <;> first | rfl | exact absurd rfl (ho _ _ _)
theorem Sim.freeze(h:Sim J u W)(a:Addr)(n:Nat):Sim J (u.freeze a n) (W.freeze a n):=by
 unfold World.freeze
 split
 ·exact h
 refine h.modify _ _ fun o ho=>?_
 cases o <;> first | rfl | exact absurd rfl (ho _ _ _)
theorem Sim.push(h:Sim J u W)(o:Obj):Sim J {u with heap:=u.heap.push o} {W with heap:=W.heap.push o}:=by
 refine⟨h.os,by simp[h.size],fun k hk=>?_,fun k hk=>?_⟩
 ·simp only[Array.getElem?_push,h.size]
  rw[h.same k hk]
 ·have:=h.lt hk
  simp only[Array.getElem?_push,h.size]
  rw[if_neg (by omega),if_neg (by omega)]
  exact h.junk k hk
theorem Sim.setObj(h:Sim J u W)(r:Nat)(o:Obj)(hr:¬J r):Sim J {u with heap:=u.heap.setIfInBounds r o} {W with heap:=W.heap.setIfInBounds r o}:=by
 refine⟨h.os,by simp[h.size],fun k hk=>?_,fun k hk=>?_⟩
 ·simp only[Array.getElem?_setIfInBounds,h.size]
  rw[h.same k hk]
 ·simp only[Array.getElem?_setIfInBounds]
  rw[if_neg (fun e=>hr (by rw[e];exact hk)),if_neg (fun e=>hr (by rw[e];exact hk))]
  exact h.junk k hk
end
def CObj(cl:Loop->Prop):Obj->Prop
 | .cells .. | .map .. | .stringIter .. | .mapIter .. | .number ..=>True
 | .loop l=>cl l
 | .deferred (some ds)=>ds=[]
 | .deferred none=>True
 | .coro none=>True
 | .chan cap buf cl a b tm=>cap=0/\buf=#[]/\cl=false/\a=0/\b=0/\tm=false
 | _=>False
def Good:Obj->Prop
 | .map .. | .stringIter .. | .mapIter .. | .loop .. | .deferred ..=>True
 | _=>False
def CleanH(cl:Loop->Prop)(u:World):Prop:=∀ k o,u.heap[k]?=some o->CObj cl o\/∃ t,o=.view ⟨k,0,none⟩ t
def NOk(N:Nat->Prop)(u:World):Prop:=∀ k,N k->∃ o,u.heap[k]?=some o/\Good o
def Ends:Halt->Prop
 | .stuck _=>True
 | .unsupported (.initOrder _)=>False
 | .unsupported _=>True
 | _=>False
inductive TameS(P P':Program)(cl:Loop->Prop){α:Type}(Bad:α->Prop)(Q:(Nat->Prop)->α->Prop):(Nat->Prop)->Sem α->Prop
 | pure {N:Nat->Prop} {a:α} (h:Q N a):TameS P P' cl Bad Q N (.pure a)
 | load {N:Nat->Prop} {m:Mode} {a:Addr} {k:Value->Sem α} (h:∀ v,TameS P P' cl Bad Q N (k v)):TameS P P' cl Bad Q N (.load m a k)
 | store {N:Nat->Prop} {m:Mode} {a:Addr} {v:Value} {k:Sem α} (h:TameS P P' cl Bad Q N k):TameS P P' cl Bad Q N (.store m a v k)
 | new {N:Nat->Prop} {o:Obj} {k:Nat->Sem α} (ho:CObj cl o) (h:∀ r,TameS P P' cl Bad Q N (k r)):TameS P P' cl Bad Q N (.new o k)
 | shape {N:Nat->Prop} {r:Nat} {k:Option (TypeId×Nat)->Sem α} (h:∀ x,TameS P P' cl Bad Q N (k x)):TameS P P' cl Bad Q N (.shape r k)
 | freeze {N:Nat->Prop} {a:Addr} {n:Nat} {k:Sem α} (h:TameS P P' cl Bad Q N k):TameS P P' cl Bad Q N (.freeze a n k)
 | frozen {N:Nat->Prop} {a:Addr} {k:Bool->Sem α} (h:∀ x,TameS P P' cl Bad Q N (k x)):TameS P P' cl Bad Q N (.frozen a k)
 | getObj {N:Nat->Prop} {r:Nat} {k:Obj->Sem α} (h:∀ o,CObj cl o->o≠.coro none->TameS P P' cl Bad Q (fun x=>N x\/(x=r/\Good o)) (k o))
    (h0:∃ e,k (.coro none)=.halt e/\Ends e) (hv:∀ a t,∃ e,k (.view a t)=.halt e/\Ends e) (hj:∀ cl a b,k (.chan 0 #[] cl a b false)=k Jk:=by intros;rfl):TameS P P' cl Bad Q N (.getObj r k)
 | look {N:Nat->Prop} {r:Nat} {k:Obj->Sem α} (h:∀ o,CObj cl o->TameS P P' cl Bad Q N (k o))
    (h0:∀ o,Far o->k o=k (.coro none)) (hv:(∀ a t,∃ e,k (.view a t)=.halt e/\Ends e)\/∀ a t,k (.view a t)=k (.coro none)):TameS P P' cl Bad Q N (.getObj r k)
 | setObj {N:Nat->Prop} {r:Nat} {o:Obj} {k:Sem α} (hr:N r) (ho:CObj cl o) (hg:Good o) (h:TameS P P' cl Bad Q N k):TameS P P' cl Bad Q N (.setObj r o k)
 | choose {N:Nat->Prop} {q:Question} {k:Nat->Sem α} (h:∀ n,TameS P P' cl Bad Q N (k n)):TameS P P' cl Bad Q N (.choose q k)
 | program {N:Nat->Prop} {k:Program->Sem α} (hk:k P=k P') (h:TameS P P' cl Bad Q N (k P')):TameS P P' cl Bad Q N (.program k)
 | bad {N:Nat->Prop} {k:Program->Sem α} {a:α} (hk:k P'=.pure a) (hb:Bad a) (h:Q N a):TameS P P' cl Bad Q N (.program k)
 | mark {N:Nat->Prop} {m:Mark} {k:Sem α} (hm:m=.noRoom\/∃ f,m=.extern f) (h:TameS P P' cl Bad Q N k):TameS P P' cl Bad Q N (.mark m k)
 | env {N:Nat->Prop} {k:SysRet->Sem α} (h:∀ r,TameS P P' cl Bad Q N (k r)):TameS P P' cl Bad Q N (.sys .env k)
 | panic {N:Nat->Prop} {v:Value}:TameS P P' cl Bad Q N (.halt (.panic v))
 | ends {N:Nat->Prop} {h:Halt} (hh:Ends h):TameS P P' cl Bad Q N (.halt h)
def reW{α:Type}(r:Result α)(w:World):Result α:=
 match r with
 | .ok a _=>.ok a w
 | .halt h _=>.halt h w
structure Mir(X:Program){α:Type}(s:Sem α)(u u1:World)(r:Result α):Prop where
 out:∃ n,u1.drawn=u.drawn+n/\∀ (J:Nat->Prop) (W:World) (τ:Nat->Question->Nat) (d:Nat) (es:Array Event),Sim J u W->(∀ i,i<n->∀ q,τ (d+i) q=u.tape (u.drawn+i) q)->
  ∃ W1 es1,s.runT X (onT W τ d) es=(reW r (onT W1 τ (d+n)),es ++ es1)/\Sim J u1 W1/\W1.os=W.os/\W1.output=W.output/\(∀ k,J k->W1.heap[k]?=W.heap[k]?)/\W.heap.size<=W1.heap.size/\∀ e∈es1,EvOk W1.heap.size e
structure Kpt(cl:Loop->Prop)(u u1:World):Prop where
 tape:u1.tape=u.tape
 os:u1.os=u.os
 output:u1.output=u.output
 size:u.heap.size<=u1.heap.size
 clean:CleanH cl u1
def Snd(X:Program){α:Type}(cl:Loop->Prop)(Bad:α->Prop)(Q:(Nat->Prop)->α->Prop)(own:Prop)(s:Sem α)(u:World)(r:Result α):Prop:=
 match r with
 | .ok v u1=>(∃ N',Q N' v/\NOk N' u1)/\Kpt cl u u1/\((¬own/\Bad v)\/Mir X s u u1 (.ok v u1))
 | .halt (.panic x) u1=>Kpt cl u u1/\Mir X s u u1 (.halt (.panic x) u1)
 | .halt h _=>Ends h
section
variable {X:Program} {α:Type} {cl:Loop->Prop} {Bad:α->Prop} {Q:(Nat->Prop)->α->Prop} {own:Prop}
theorem Mir.step{s k:Sem α}{u u' u1:World}{r:Result α}(h:Mir X k u' u1 r)(c:Nat)(hd:u'.drawn=u.drawn+c)(ht:u'.tape=u.tape)
  (hs:∀ (J:Nat->Prop) (W:World) (τ:Nat->Question->Nat) (d:Nat) (es:Array Event),Sim J u W->(∀ i,i<c->∀ q,τ (d+i) q=u.tape (u.drawn+i) q)->
    ∃ W' ev,s.runT X (onT W τ d) es=k.runT X (onT W' τ (d+c)) (es ++ ev)/\Sim J u' W'/\W'.os=W.os/\W'.output=W.output/\(∀ k,J k->W'.heap[k]?=W.heap[k]?)/\W.heap.size<=W'.heap.size/\∀ e∈ev,EvOk W'.heap.size e):Mir X s u u1 r:=by
 obtain⟨n,e1,h1⟩:=h.out
 refine⟨c+n,by omega,fun J W τ d es hS hτ=>?_⟩
 obtain⟨W',ev,e2,hS',ho,hu,hJ,hz,hev⟩:=hs J W τ d es hS fun i hi q=>hτ i (by omega) q
 obtain⟨W1,es1,e3,hS1,ho1,hu1,hJ1,hz1,hev1⟩:=h1 J W' τ (d+c) (es ++ ev) hS' fun i hi q=>by
  have:=hτ (c+i) (by omega) q
  rw[ht,hd,Nat.add_assoc,Nat.add_assoc]
  exact this
 refine⟨W1,ev ++ es1,?_,hS1,ho1.trans ho,hu1.trans hu,fun k hk=>(hJ1 k hk).trans (hJ k hk),Nat.le_trans hz hz1,fun e he=>?_⟩
 ·rw[e2,e3]
  simp[Nat.add_assoc]
 ·rcases Array.mem_append.1 he with h | h
  ·exact (hev e h).mono hz1
  ·exact hev1 e h
theorem Kpt.step{u u' u1:World}(h:Kpt cl u' u1)(ht:u'.tape=u.tape)(ho:u'.os=u.os)(hu:u'.output=u.output)(hz:u.heap.size<=u'.heap.size):Kpt cl u u1:=⟨h.tape.trans ht,h.os.trans ho,h.output.trans hu,Nat.le_trans hz h.size,h.clean⟩
theorem Snd.step{s k:Sem α}{u u':World}{r:Result α}(h:Snd X cl Bad Q own k u' r)(c:Nat)(hd:u'.drawn=u.drawn+c)(ht:u'.tape=u.tape)(ho:u'.os=u.os)(hu:u'.output=u.output)(hz:u.heap.size<=u'.heap.size)
  (hs:∀ (J:Nat->Prop) (W:World) (τ:Nat->Question->Nat) (d:Nat) (es:Array Event),Sim J u W->(∀ i,i<c->∀ q,τ (d+i) q=u.tape (u.drawn+i) q)->
    ∃ W' ev,s.runT X (onT W τ d) es=k.runT X (onT W' τ (d+c)) (es ++ ev)/\Sim J u' W'/\W'.os=W.os/\W'.output=W.output/\(∀ k,J k->W'.heap[k]?=W.heap[k]?)/\W.heap.size<=W'.heap.size/\∀ e∈ev,EvOk W'.heap.size e):Snd X cl Bad Q own s u r:=by
 cases r with
 | ok v u1=>exact ⟨h.1,h.2.1.step ht ho hu hz,h.2.2.imp id fun m=>m.step c hd ht hs⟩
 | halt e u1=>
   cases e <;> first | exact⟨h.1.step ht ho hu hz,h.2.step c hd ht hs⟩ | exact h
end
theorem cell_lt{w:World}{a:Addr}{v:Value}(h:w.cell? a=some v):a.block<w.heap.size:=by
 rcases Nat.lt_or_ge a.block w.heap.size with h' | h'
 ·exact h'
 ·simp[World.cell?,Array.getElem?_eq_none h']at h
theorem dead_seen(P:Program)(w:World)(k:Nat)(t u:TypeId)(a:Addr)(b:Bool)(h:w.heap[k]?=some (.view ⟨k,0,none⟩ t)):∃ e,w.seen P ⟨k,0,none⟩ u a b=.error e:=by
 unfold World.seen
 simp only[h]
 cases hs:a.spot.isSome
 ·cases plainCell P P.depth u a.off with
  | none=>exact ⟨_,rfl⟩
  | some like=>
    cases hb:(like.bytes?.map (·.length))with
    | none=>exact ⟨ "memory seen as another type: a cell that is no plain data",by simp[hb,bind,Except.bind,throw,throwThe,MonadExcept.throw,MonadExceptOf.throw,pure,Except.pure]⟩
    | some size=>
      cases hc:byteOfCell P P.depth u a.off with
      | none=>exact ⟨ "memory seen as another type: no such cell",by simp[hb,hc,bind,Except.bind,throw,throwThe,MonadExcept.throw,MonadExceptOf.throw,pure,Except.pure]⟩
      | some β=>exact ⟨ "memory seen as another type: what is seen is no row of variables",by simp[hb,hc,bind,Except.bind,throw,throwThe,MonadExcept.throw,MonadExceptOf.throw,pure,Except.pure]⟩
 ·exact⟨ "memory seen as another type: a place without cells",by simp[bind,Except.bind,throw,throwThe,MonadExcept.throw,MonadExceptOf.throw]⟩
theorem far_load{cl:Loop->Prop}(P:Program){u:World}(hc:CleanH cl u)(a:Addr)(b:Bool)(ha:u.cell? a=none):∃ e,u.farLoad P a b=.error e/\Ends e:=by
 unfold World.farLoad
 cases ho:u.heap[a.block]? with
 | none=>exact ⟨_,rfl,by simp[World.noCell,ho,Ends]⟩
 | some o=>
   rcases hc _ _ ho with h |⟨t,rfl⟩
   ·cases o <;> first | exact h.elim | exact⟨_,rfl,by simp[World.noCell,ho,Ends]⟩
   ·simp only[World.viewLoad]
    obtain⟨e,he⟩:=dead_seen P u a.block t t a b ho
    rw[he]
    exact⟨_,rfl,trivial⟩
theorem far_store{cl:Loop->Prop}(P:Program){u:World}(hc:CleanH cl u)(a:Addr)(v:Value)(b:Bool)(ha:u.cell? a=none):∃ e,u.farStore P a v b=.error e/\Ends e:=by
 unfold World.farStore
 cases ho:u.heap[a.block]? with
 | none=>exact ⟨_,rfl,by simp[World.noCell,ho,Ends]⟩
 | some o=>
   rcases hc _ _ ho with h |⟨t,rfl⟩
   ·cases o <;> first | exact h.elim | exact⟨_,rfl,by simp[World.noCell,ho,Ends]⟩
   ·obtain⟨e,he⟩:=dead_seen P u a.block t t a b ho
    have:∃ e,u.viewStore P ⟨a.block,0,none⟩ t a v b=.error e:=by
     unfold World.viewStore
     cases htt:tight P P.depth t with
     | false=>exact ⟨_,rfl⟩
     | true=>exact ⟨e,by simp[he,bind,Except.bind,pure,Except.pure]⟩
    obtain⟨e2,he2⟩:=this
    simp only[he2]
    exact⟨_,rfl,trivial⟩
section
variable {P P' X:Program} {α:Type} {cl:Loop->Prop} {Bad:α->Prop} {Q:(Nat->Prop)->α->Prop} {own:Prop}
theorem clean_setCell{u:World}(h:CleanH cl u)(a:Addr)(v:Value):CleanH cl (u.setCell a v):=by
 intro k o ho
 simp only[World.setCell,Array.getElem?_modify]at ho
 split at ho
 ·cases hu:u.heap[k]? with
  | none=>rw [hu]at ho;cases ho
  | some o'=>
    rw[hu]at ho
    simp only[Option.map_some,Option.some.injEq]at ho
    subst ho
    have:=h k o' hu
    cases o' <;> first | exact .inl trivial | exact this
 ·exact h k o ho
theorem clean_freeze{u:World}(h:CleanH cl u)(a:Addr)(n:Nat):CleanH cl (u.freeze a n):=by
 unfold World.freeze
 split
 ·exact h
 intro k o ho
 simp only[Array.getElem?_modify]at ho
 split at ho
 ·cases hu:u.heap[k]? with
  | none=>rw [hu]at ho;cases ho
  | some o'=>
    rw[hu]at ho
    simp only[Option.map_some,Option.some.injEq]at ho
    subst ho
    have:=h k o' hu
    cases o' <;> first | exact .inl trivial | exact this
 ·exact h k o ho
theorem clean_push{u:World}(h:CleanH cl u)(o:Obj)(ho:CObj cl o):CleanH cl {u with heap:=u.heap.push o}:=by
 intro k o' hk
 simp only[Array.getElem?_push]at hk
 split at hk
 ·obtain rfl:=Option.some.inj hk
  exact .inl ho
 ·exact h k o' hk
theorem clean_setObj{u:World}(h:CleanH cl u)(r:Nat)(o:Obj)(ho:CObj cl o):CleanH cl {u with heap:=u.heap.setIfInBounds r o}:=by
 intro k o' hk
 simp only[Array.getElem?_setIfInBounds]at hk
 split at hk
 ·split at hk
  ·obtain rfl:=Option.some.inj hk
   exact .inl ho
  ·cases hk
 ·exact h k o' hk
theorem nok_setCell{N:Nat->Prop}{u:World}(h:NOk N u)(a:Addr)(v:Value):NOk N (u.setCell a v):=by
 intro k hk
 obtain⟨o,ho,hg⟩:=h k hk
 refine⟨o,?_,hg⟩
 simp only[World.setCell,Array.getElem?_modify,ho]
 split
 ·cases o <;> first | exact hg.elim | rfl
 ·rfl
theorem nok_freeze{N:Nat->Prop}{u:World}(h:NOk N u)(a:Addr)(n:Nat):NOk N (u.freeze a n):=by
 unfold World.freeze
 split
 ·exact h
 intro k hk
 obtain⟨o,ho,hg⟩:=h k hk
 refine⟨o,?_,hg⟩
 simp only[Array.getElem?_modify,ho]
 split
 ·cases o <;> first | exact hg.elim | rfl
 ·rfl
theorem nok_push{N:Nat->Prop}{u:World}(h:NOk N u)(o:Obj):NOk N {u with heap:=u.heap.push o}:=by
 intro k hk
 obtain⟨o',ho,hg⟩:=h k hk
 refine⟨o',?_,hg⟩
 have:=(Array.getElem?_eq_some_iff.1 ho).1
 simp only[Array.getElem?_push]
 rw[if_neg (by omega)]
 exact ho
theorem nok_setObj{N:Nat->Prop}{u:World}(h:NOk N u)(r:Nat)(o:Obj)(hg:Good o):NOk N {u with heap:=u.heap.setIfInBounds r o}:=by
 intro k hk
 obtain⟨o',ho,hg'⟩:=h k hk
 have:=(Array.getElem?_eq_some_iff.1 ho).1
 simp only[Array.getElem?_setIfInBounds]
 by_cases e:r=k
 ·rw[if_pos e,if_pos (by omega)]
  exact⟨o,rfl,hg⟩
 ·rw[if_neg e]
  exact⟨o',ho,hg'⟩
theorem sys_env(w:World):w.sys .env=(.strings w.os.env,w):=by
 have h:Kernel.perform .env w.os=.done (.strings w.os.env,w.os):=by
  simp[Kernel.perform,Kernel.lengthOf,Kernel.named,Kernel.ofKernel,Kernel.stamps,Kernel.each,Kernel.env,pure,bind,Ask.bind]
 simp[World.sys,h,World.ask]
theorem TameS.sound{N:Nat->Prop}{s:Sem α}(hX:(X=P'/\own)\/(X=P/\¬own))(h:TameS P P' cl Bad Q N s):∀ u,CleanH cl u->NOk N u->Snd X cl Bad Q own s u (s.run P' u):=by
 induction h with
 | @pure N a h=>exact fun u hc hn=>⟨⟨N,h,hn⟩,⟨rfl,rfl,rfl,Nat.le_refl _,hc⟩,.inr ⟨0,rfl,fun J W τ d es hS _=>⟨W,#[],by simp[Sem.runT,reW],hS,rfl,rfl,fun _ _=>rfl,Nat.le_refl _,fun e he=>by simp at he⟩⟩⟩
 | @load N m a k h ih=>
   intro u hc hn
   cases ha:u.cell? a with
   | none=>
     obtain⟨e,he,hE⟩:=far_load P' hc a (m == .atomic) ha
     simp only[Sem.run,ha,he]
     cases e <;> first | exact hE | exact hE.elim
   | some v=>
     have e:(Sem.load m a k).run P' u=(k v).run P' u:=by simp only[Sem.run,ha]
     rw[e]
     refine (ih v u hc hn).step 0 rfl rfl rfl rfl (Nat.le_refl _) fun J W τ d es hS _=>?_
     have hw:W.cell? a=some v:=(hS.cell a).trans ha
     refine⟨W,#[⟨.cell a,false,m == .atomic⟩],?_,hS,rfl,rfl,fun _ _=>rfl,Nat.le_refl _,fun e he=>?_⟩
     ·simp[Sem.runT,cell_onT,hw,-Sem.runT_eq]
     ·simp only[List.mem_toArray,List.mem_singleton]at he
      subst he
      exact .cell _ _ _ (cell_lt hw)
 | @store N m a v k h ih=>
   intro u hc hn
   by_cases hv:v.oneCell'=true
   ·cases ha:u.cell? a with
    | none=>
      obtain⟨e,he,hE⟩:=far_store P' hc a v (m == .atomic) ha
      have:(Sem.store m a v k).run P' u=.halt e u:=by cases v <;> first | (simp[Value.oneCell']at hv;done) | simp only[Sem.run,ha,he]
      rw[this]
      cases e <;> first | exact hE | exact hE.elim
    | some x=>
      cases hf:u.frozen? a with
      | true=>
        have:∃ z,(Sem.store m a v k).run P' u=.halt (.unsupported (.unsafePointer z)) u:=by cases v <;> first | (simp[Value.oneCell']at hv;done) | exact⟨_,by simp only[Sem.run,ha,hf,if_true];rfl⟩
        obtain⟨z,this⟩:=this
        rw[this]
        exact trivial
      | false=>
        have e:(Sem.store m a v k).run P' u=k.run P' (u.setCell a v):=by cases v <;> first | (simp[Value.oneCell']at hv;done) | (simp only[Sem.run,ha,hf];rfl)
        rw[e]
        refine (ih (u.setCell a v) (clean_setCell hc a v) (nok_setCell hn a v)).step 0 rfl rfl rfl rfl (by simp[World.setCell]) fun J W τ d es hS _=>?_
        have hw:W.cell? a=some x:=(hS.cell a).trans ha
        have hwf:W.frozen? a=false:=(hS.frozen a).trans hf
        refine⟨W.setCell a v,#[⟨.cell a,true,m == .atomic⟩],?_,hS.setCell a v,rfl,rfl,fun j hj=>?_,by simp[World.setCell],fun e he=>?_⟩
        ·have e2:(onT W τ d).setCell a v=onT (W.setCell a v) τ (d+0):=rfl
         cases v <;> first | (simp[Value.oneCell']at hv;done) | (simp[Sem.runT,cell_onT,frozen_onT,hw,hwf,e2])
        ·simp only[World.setCell,Array.getElem?_modify]
         split
         ·rename_i hb
          subst hb
          exfalso
          unfold World.cell? at ha
          rcases hS.junk _ hj with ⟨y,o,z,_,f⟩ |⟨t,b,z,_⟩
          ·rw[z]at ha
           rcases f with ⟨rfl,_⟩ |⟨rfl,_⟩ <;> cases ha
          ·rw[z]at ha
           cases ha
         ·rfl
        ·simp only[List.mem_toArray,List.mem_singleton]at he
         subst he
         exact .cell _ _ _ (by simpa[World.setCell]using cell_lt hw)
   ·have:(Sem.store m a v k).run P' u=.halt (.stuck "store: not the value of one cell") u:=by cases v <;> first | rfl | (simp[Value.oneCell']at hv;done)
    rw[this]
    exact trivial
 | @new N o k ho h ih=>
   intro u hc hn
   refine (ih u.heap.size {u with heap:=u.heap.push o} (clean_push hc o ho) (nok_push hn o)).step 0 rfl rfl rfl rfl (by simp) fun J W τ d es hS _=>?_
   refine⟨{W with heap:=W.heap.push o},#[],?_,hS.push o,rfl,rfl,fun j hj=>?_,by simp,fun e he=>by simp at he⟩
   ·show Sem.runT X (Sem.new o k) (onT W τ d) es=_
    simp only[Sem.runT,onT_heap,hS.size,Array.append_empty]
    rfl
   ·have:=hS.lt hj
    simp only[Array.getElem?_push,hS.size]
    rw[if_neg (by omega)]
 | @shape N r k h ih=>
   intro u hc hn
   refine (ih (u.shape? r) u hc hn).step 0 rfl rfl rfl rfl (Nat.le_refl _) fun J W τ d es hS _=>⟨W,#[],?_,hS,rfl,rfl,fun _ _=>rfl,Nat.le_refl _,fun e he=>by simp at he⟩
   have e:(onT W τ d).shape? r=u.shape? r:=(show (onT W τ d).shape? r=W.shape? r from rfl).trans (hS.shape r)
   simp only[Sem.runT,e,Array.append_empty]
   rfl
 | @freeze N a n k h ih=>
   intro u hc hn
   refine (ih (u.freeze a n) (clean_freeze hc a n) (nok_freeze hn a n)).step 0 (by unfold World.freeze;split <;> rfl) (by unfold World.freeze;split <;> rfl) (by unfold World.freeze;split <;> rfl) (by unfold World.freeze;split <;> rfl) (by unfold World.freeze;split <;> simp) fun J W τ d es hS _=>⟨W.freeze a n,#[],?_,hS.freeze a n,by unfold World.freeze;split <;> rfl,by unfold World.freeze;split <;> rfl,fun j hj=>?_,by unfold World.freeze;split <;> simp,fun e he=>by simp at he⟩
   ·have e2:(onT W τ d).freeze a n=onT (W.freeze a n) τ (d+0):=by unfold World.freeze;split <;> rfl
    simp only[Sem.runT,e2,Array.append_empty]
   ·unfold World.freeze
    split
    ·rfl
    simp only[Array.getElem?_modify]
    split
    ·rename_i hb
     subst hb
     rcases hS.junk _ hj with ⟨_,o,_,z,f⟩ |⟨t,b,_,z⟩
     ·rw[z]
      have f:=f.far.2
      cases o <;> first | rfl | exact f.elim
     ·rw[z]
      rfl
    ·rfl
 | @frozen N a k h ih=>
   intro u hc hn
   refine (ih (u.frozen? a) u hc hn).step 0 rfl rfl rfl rfl (Nat.le_refl _) fun J W τ d es hS _=>⟨W,#[],?_,hS,rfl,rfl,fun _ _=>rfl,Nat.le_refl _,fun e he=>by simp at he⟩
   have e:(onT W τ d).frozen? a=u.frozen? a:=(frozen_onT W τ d a).trans (hS.frozen a)
   simp only[Sem.runT,e,Array.append_empty]
   rfl
 | @getObj N r k h h0 hv hj ih=>
   intro u hc hn
   cases ho:u.heap[r]? with
   | none=>
     have:∃ z,(Sem.getObj r k).run P' u=.halt (.stuck z) u:=⟨_,by simp only[Sem.run,ho];rfl⟩
     obtain⟨z,e⟩:=this
     rw[e];exact trivial
   | some o=>
     rcases hc r o ho with hco |⟨t,rfl⟩
     ·by_cases hz:o=.coro none
      ·subst hz
       obtain⟨e,he,hE⟩:=h0
       have:(Sem.getObj r k).run P' u=.halt e u:=by simp only[Sem.run,ho,he]
       rw[this]
       cases e <;> first | exact hE | exact hE.elim
      ·by_cases hcl:∃ c t f,o=.cells c t f
       ·obtain⟨c,t,f,rfl⟩:=hcl
        have:∃ z,(Sem.getObj r k).run P' u=.halt (.stuck z) u:=⟨_,by simp only[Sem.run,ho];rfl⟩
        obtain⟨z,e⟩:=this
        rw[e];exact trivial
       ·have e:(Sem.getObj r k).run P' u=(k o).run P' u:=by
         simp only[Sem.run,ho]
         cases o <;> first | rfl | exact absurd ⟨_,_,_,rfl⟩ hcl
        rw[e]
        have hn':NOk (fun x=>N x\/(x=r/\Good o)) u:=fun x hx=>by
         rcases hx with hx |⟨rfl,hg⟩
         ·exact hn x hx
         ·exact⟨o,ho,hg⟩
        refine (ih o hco hz u hc hn').step 0 rfl rfl rfl rfl (Nat.le_refl _) fun J W τ d es hS _=>?_
        obtain⟨o2,hw,hk2,hnc⟩:∃ o2,W.heap[r]?=some o2/\k o2=k o/\¬∃ c t f,o2=.cells c t f:=by
         rcases hS.at r with z |⟨y,o2,z,hw,f⟩ |⟨t,b,z,_⟩
         ·exact⟨o,z.trans ho,rfl,hcl⟩
         ·rw[ho]at z
          obtain rfl:=Option.some.inj z
          rcases f with ⟨e,_⟩ |⟨rfl,_,_,_,rfl⟩
          ·exact absurd e hz
          ·exact⟨_,hw,hj _ _ _,fun ⟨_,_,_,e⟩=>by cases e⟩
         ·rw[ho]at z
          obtain rfl:=Option.some.inj z
          exact hco.elim
        refine⟨W,#[⟨.obj r,false,o2.isChan⟩],?_,hS,rfl,rfl,fun _ _=>rfl,Nat.le_refl _,fun e he=>?_⟩
        ·rw[<-hk2]
         simp only[Sem.runT,onT_heap,hw]
         cases o2 <;> first | (simp;done) | exact absurd ⟨_,_,_,rfl⟩ hnc
        ·simp only[List.mem_toArray,List.mem_singleton]at he
         subst he
         exact .obj _ _ _ (Array.getElem?_eq_some_iff.1 hw).1
     ·obtain⟨e,he,hE⟩:=hv ⟨r,0,none⟩ t
      have:(Sem.getObj r k).run P' u=.halt e u:=by simp only[Sem.run,ho,he]
      rw[this]
      cases e <;> first | exact hE | exact hE.elim
 | @look N r k h h0 hv ih=>
   intro u hc hn
   have key:∀ o o',CObj cl o->k o'=k o->u.heap[r]?=some o'->(¬∃ c t f,o'=.cells c t f)->(∀ (J:Nat->Prop) (W:World),Sim J u W->∃ o2,W.heap[r]?=some o2/\k o2=k o/\¬∃ c t f,o2=.cells c t f)->Snd X cl Bad Q own (Sem.getObj r k) u ((Sem.getObj r k).run P' u):=by
    intro o o' hco hk ho hcl hW
    have e:(Sem.getObj r k).run P' u=(k o).run P' u:=by
     rw[<-hk]
     simp only[Sem.run,ho]
     cases o' <;> first | rfl | exact absurd ⟨_,_,_,rfl⟩ hcl
    rw[e]
    refine (ih o hco u hc hn).step 0 rfl rfl rfl rfl (Nat.le_refl _) fun J W τ d es hS _=>?_
    obtain⟨o2,hw,hk2,hnc⟩:=hW J W hS
    refine⟨W,#[⟨.obj r,false,o2.isChan⟩],?_,hS,rfl,rfl,fun _ _=>rfl,Nat.le_refl _,fun e he=>?_⟩
    ·rw[<-hk2]
     simp only[Sem.runT,onT_heap,hw]
     cases o2 <;> first | (simp;done) | exact absurd ⟨_,_,_,rfl⟩ hnc
    ·simp only[List.mem_toArray,List.mem_singleton]at he
     subst he
     exact .obj _ _ _ (Array.getElem?_eq_some_iff.1 hw).1
   cases ho:u.heap[r]? with
   | none=>
     have:∃ z,(Sem.getObj r k).run P' u=.halt (.stuck z) u:=⟨_,by simp only[Sem.run,ho];rfl⟩
     obtain⟨z,e⟩:=this
     rw[e];exact trivial
   | some o=>
     rcases hc r o ho with hco |⟨t,rfl⟩
     ·by_cases hcl:∃ c t f,o=.cells c t f
      ·obtain⟨c,t,f,rfl⟩:=hcl
       have:∃ z,(Sem.getObj r k).run P' u=.halt (.stuck z) u:=⟨_,by simp only[Sem.run,ho];rfl⟩
       obtain⟨z,e⟩:=this
       rw[e];exact trivial
      ·refine key o o hco rfl ho hcl fun J W hS=>?_
       rcases hS.at r with z |⟨y,o2,z,hw,f⟩ |⟨t,b,z,_⟩
       ·exact⟨o,z.trans ho,rfl,hcl⟩
       ·rw[ho]at z
        obtain rfl:=Option.some.inj z
        have hf:=f.far
        exact⟨o2,hw,(h0 o2 hf.2).trans (h0 _ hf.1).symm,fun ⟨c,t,g,e⟩=>by rw[e]at hf;exact hf.2⟩
       ·rw[ho]at z
        obtain rfl:=Option.some.inj z
        exact hco.elim
     ·rcases hv with hv | hv
      ·obtain⟨e,he,hE⟩:=hv ⟨r,0,none⟩ t
       have:(Sem.getObj r k).run P' u=.halt e u:=by simp only[Sem.run,ho,he]
       rw[this]
       cases e <;> first | exact hE | exact hE.elim
      ·refine key (.coro none) _ trivial (hv _ _) ho (fun ⟨_,_,_,e⟩=>by cases e) fun J W hS=>?_
       rcases hS.at r with z |⟨y,o2,z,hw,f⟩ |⟨t',b,z,hw⟩
       ·exact⟨_,z.trans ho,hv _ _,fun ⟨_,_,_,e⟩=>by cases e⟩
       ·rw[ho]at z
        obtain rfl:=Option.some.inj z
        exact f.far.1.elim
       ·exact⟨_,hw,hv _ _,fun ⟨_,_,_,e⟩=>by cases e⟩
 | @setObj N r o k hr ho hg h ih=>
   intro u hc hn
   obtain⟨o0,hu0,hg0⟩:=hn r hr
   have hcl:¬∃ c t f,o0=.cells c t f:=fun ⟨c,t,f,e⟩=>by rw[e]at hg0;exact hg0
   have e:(Sem.setObj r o k).run P' u=k.run P' {u with heap:=u.heap.setIfInBounds r o}:=by
    simp only[Sem.run,hu0]
    cases o0 <;> first | rfl | exact absurd ⟨_,_,_,rfl⟩ hcl
   rw[e]
   refine (ih {u with heap:=u.heap.setIfInBounds r o} (clean_setObj hc r o ho) (nok_setObj hn r o hg)).step 0 rfl rfl rfl rfl (by simp) fun J W τ d es hS _=>?_
   have hnj:¬J r:=fun hj=>by
    rcases hS.junk r hj with ⟨y,o,z,_,f⟩ |⟨t,b,z,_⟩
    ·rw[hu0]at z
     obtain rfl:=Option.some.inj z
     rcases f with ⟨rfl,_⟩ |⟨rfl,_⟩ <;> exact hg0
    ·rw[hu0]at z
     obtain rfl:=Option.some.inj z
     exact hg0
   have hw:W.heap[r]?=some o0:=(hS.same r hnj).trans hu0
   refine⟨{W with heap:=W.heap.setIfInBounds r o},#[⟨.obj r,true,o.isChan⟩],?_,hS.setObj r o hnj,rfl,rfl,fun j hj=>?_,by simp,fun e he=>?_⟩
   ·rw[show es ++ #[(⟨.obj r,true,o.isChan⟩:Event)]=es.push ⟨.obj r,true,o.isChan⟩ from by simp]
    simp only[Sem.runT,onT_heap,hw]
    cases o0 <;> first | rfl | exact absurd ⟨_,_,_,rfl⟩ hcl
   ·simp only[Array.getElem?_setIfInBounds]
    rw[if_neg (fun e=>hnj (by rw[e];exact hj))]
   ·simp only[List.mem_toArray,List.mem_singleton]at he
    subst he
    exact .obj _ _ _ (by simpa using (Array.getElem?_eq_some_iff.1 hw).1)
 | @choose N q k h ih=>
   intro u hc hn
   cases hq:q.forced with
   | true=>
     have e:(Sem.choose q k).run P' u=(k 0).run P' u:=by simp only[Sem.run,hq,if_true]
     rw[e]
     refine (ih 0 u hc hn).step 0 rfl rfl rfl rfl (Nat.le_refl _) fun J W τ d es hS _=>⟨W,#[],?_,hS,rfl,rfl,fun _ _=>rfl,Nat.le_refl _,fun e he=>by simp at he⟩
     simp only[Sem.runT,hq,if_true,Array.append_empty]
     rfl
   | false=>
     have e:(Sem.choose q k).run P' u=(k (q.cut (u.tape u.drawn q))).run P' {u with drawn:=u.drawn+1}:=by simp only[Sem.run,hq];rfl
     rw[e]
     refine (ih (q.cut (u.tape u.drawn q)) {u with drawn:=u.drawn+1} hc hn).step 1 rfl rfl rfl rfl (Nat.le_refl _) fun J W τ d es hS hτ=>⟨W,#[],?_,hS.of_heap rfl rfl rfl rfl,rfl,rfl,fun _ _=>rfl,Nat.le_refl _,fun e he=>by simp at he⟩
     have:=hτ 0 (by omega) q
     simp only[Nat.add_zero]at this
     simp only[Sem.runT,hq,onT_tape,onT_drawn,this,Array.append_empty]
     rfl
 | @program N k hk h ih=>
   intro u hc hn
   refine (ih u hc hn).step 0 rfl rfl rfl rfl (Nat.le_refl _) fun J W τ d es hS _=>⟨W,#[],?_,hS,rfl,rfl,fun _ _=>rfl,Nat.le_refl _,fun e he=>by simp at he⟩
   simp only[Sem.runT,Array.append_empty,Nat.add_zero]
   rcases hX with ⟨rfl,_⟩ |⟨rfl,_⟩
   ·rfl
   ·rw[hk]
 | @bad N k a hk hb h=>
   intro u hc hn
   have e:(Sem.program k).run P' u=.ok a u:=by simp only[Sem.run,hk]
   rw[e]
   refine⟨⟨N,h,hn⟩,⟨rfl,rfl,rfl,Nat.le_refl _,hc⟩,?_⟩
   by_cases ho:own
   ·rcases hX with ⟨rfl,_⟩ |⟨_,h2⟩
    ·exact .inr ⟨0,rfl,fun J W τ d es hS _=>⟨W,#[],by simp[Sem.runT,reW,hk],hS,rfl,rfl,fun _ _=>rfl,Nat.le_refl _,fun e he=>by simp at he⟩⟩
    ·exact absurd ho h2
   ·exact .inl ⟨ho,hb⟩
 | @mark N m k hm h ih=>
   intro u hc hn
   refine (ih u hc hn).step 0 rfl rfl rfl rfl (Nat.le_refl _) fun J W τ d es hS _=>⟨W,#[⟨.mark m,false,true⟩],?_,hS,rfl,rfl,fun _ _=>rfl,Nat.le_refl _,fun e he=>?_⟩
   ·simp only[Sem.runT,Nat.add_zero]
    simp
   ·simp only[List.mem_toArray,List.mem_singleton]at he
    subst he
    rcases hm with rfl |⟨f,rfl⟩
    ·exact .room _ _
    ·exact .extern _ _ _
 | @env N k h ih=>
   intro u hc hn
   have e:(Sem.sys .env k).run P' u=(k (.strings u.os.env)).run P' u:=by simp only[Sem.run,sys_env]
   rw[e]
   refine (ih _ u hc hn).step 0 rfl rfl rfl rfl (Nat.le_refl _) fun J W τ d es hS _=>⟨W,#[⟨.output,true,false⟩],?_,hS,rfl,rfl,fun _ _=>rfl,Nat.le_refl _,fun e he=>?_⟩
   ·have e2:(onT W τ d).os=u.os:=hS.os
    simp only[Sem.runT,sys_env,e2,Nat.add_zero]
    simp
   ·simp only[List.mem_toArray,List.mem_singleton]at he
    subst he
    exact .output _ _
 | @panic N v=>exact fun u hc hn=>⟨⟨rfl,rfl,rfl,Nat.le_refl _,hc⟩,⟨0,rfl,fun J W τ d es hS _=>⟨W,#[],by simp[Sem.runT,reW],hS,rfl,rfl,fun _ _=>rfl,Nat.le_refl _,fun e he=>by simp at he⟩⟩⟩
 | @ends N h hh=>
   intro u _ _
   simp only[Sem.run]
   cases h <;> first | exact hh | exact hh.elim
end
abbrev ofF(P:Program)(Fs:Array Func):Program:={P with funcs:=Fs}
section
variable {P P':Program} {cl:Loop->Prop} {α β:Type}
theorem TameS.mono{Bad Bad':α->Prop}{Q Q':(Nat->Prop)->α->Prop}{N:Nat->Prop}{s:Sem α}(h:TameS P P' cl Bad Q N s)(hb:∀ a,Bad a->Bad' a)(hq:∀ N a,Q N a->Q' N a):TameS P P' cl Bad' Q' N s:=by
 induction h with
 | pure h=>exact .pure (hq _ _ h)
 | load _ ih=>exact .load ih
 | store _ ih=>exact .store ih
 | new ho _ ih=>exact .new ho ih
 | shape _ ih=>exact .shape ih
 | freeze _ ih=>exact .freeze ih
 | frozen _ ih=>exact .frozen ih
 | getObj _ h0 hv hj ih=>exact .getObj ih h0 hv hj
 | look _ h0 hv ih=>exact .look ih h0 hv
 | setObj hr ho hg _ ih=>exact .setObj hr ho hg ih
 | choose _ ih=>exact .choose ih
 | program hk _ ih=>exact .program hk ih
 | bad hk hb' h=>exact .bad hk (hb _ hb') (hq _ _ h)
 | mark hm _ ih=>exact .mark hm ih
 | env _ ih=>exact .env ih
 | panic=>exact .panic
 | ends hh=>exact .ends hh
theorem TameS.bind{Bad:β->Prop}{Q:(Nat->Prop)->α->Prop}{R:(Nat->Prop)->β->Prop}{N:Nat->Prop}{s:Sem α}(h:TameS P P' cl (fun _=>False) Q N s){f:α->Sem β}(hf:∀ N' a,(∀ x,N x->N' x)->Q N' a->TameS P P' cl Bad R N' (f a)):TameS P P' cl Bad R N (s >>= f):=by
 show TameS P P' cl Bad R N (s.bind f)
 induction h with
 | pure h=>exact hf _ _ (fun _ x=>x) h
 | load _ ih=>exact .load fun v=>ih v hf
 | store _ ih=>exact .store (ih hf)
 | new ho _ ih=>exact .new ho fun r=>ih r hf
 | shape _ ih=>exact .shape fun r=>ih r hf
 | freeze _ ih=>exact .freeze (ih hf)
 | frozen _ ih=>exact .frozen fun r=>ih r hf
 | getObj _ h0 hv hj ih=>
   refine .getObj (fun o ho hn=>ih o ho hn fun N' a hN hq=>hf N' a (fun x hx=>hN x (.inl hx)) hq) ?_ (fun a t=>?_) fun cl a b=>by rw[hj]
   ·obtain⟨e,he,hE⟩:=h0
    exact⟨e,by rw[he];rfl,hE⟩
   ·obtain⟨e,he,hE⟩:=hv a t
    exact⟨e,by rw[he];rfl,hE⟩
 | look _ h0 hv ih=>
   refine .look (fun o ho=>ih o ho hf) (fun o ho=>by rw[h0 o ho]) (hv.imp (fun hv a t=>?_) fun hv a t=>by rw[hv])
   obtain⟨e,he,hE⟩:=hv a t
   exact⟨e,by rw[he];rfl,hE⟩
 | setObj hr ho hg _ ih=>exact .setObj hr ho hg (ih hf)
 | choose _ ih=>exact .choose fun n=>ih n hf
 | program hk _ ih=>exact .program (by rw[hk]) (ih hf)
 | bad hk hb h=>exact hb.elim
 | mark hm _ ih=>exact .mark hm (ih hf)
 | env _ ih=>exact .env fun r=>ih r hf
 | panic=>exact .panic
 | ends hh=>exact .ends hh
end
def Tm(P:Program)(Fs:Array Func)(cl:Loop->Prop){α:Type}(s:Sem α)(Q:α->Prop):Prop:=∀ N,TameS P (ofF P Fs) cl (fun _=>False) (fun N' a=>(∀ x,N x->N' x)/\Q a) N s
section
variable {P:Program} {Fs:Array Func} {cl:Loop->Prop} {α β:Type} {Q:α->Prop} {R:β->Prop}
theorem Tm.bind{s:Sem α}{f:α->Sem β}(h:Tm P Fs cl s Q)(hf:∀ a,Q a->Tm P Fs cl (f a) R):Tm P Fs cl (s >>= f) R:=
 fun N=>(h N).bind fun N' a hn hq=>(hf a hq.2 N').mono (fun _ h=>h) fun N2 b hb=>⟨fun x hx=>hb.1 x (hn x hx),hb.2⟩
theorem TameS.bindT{Bad:β->Prop}{Q2:(Nat->Prop)->β->Prop}{N:Nat->Prop}{s:Sem α}{f:α->Sem β}(h:Tm P Fs cl s Q)(hf:∀ N' a,(∀ x,N x->N' x)->Q a->TameS P (ofF P Fs) cl Bad Q2 N' (f a)):TameS P (ofF P Fs) cl Bad Q2 N (s >>= f):=
 (h N).bind fun N' a hn hq=>hf N' a hn hq.2
theorem tm_pure{a:α}(h:Q a):Tm P Fs cl (pure a) Q:=fun _=>.pure ⟨fun _ x=>x,h⟩
theorem tm_panic{v:Value}:Tm P Fs cl (goPanic v) Q:=fun _=>.panic
theorem tm_stuck{s:String}:Tm P Fs cl (stuck s) Q:=fun _=>.ends trivial
theorem tm_unsup{u:Unsupported}(h:Ends (.unsupported u)):Tm P Fs cl (unsupported u) Q:=fun _=>.ends h
theorem tm_program{f:Program->Sem α}(hk:f P=f (ofF P Fs))(h:Tm P Fs cl (f (ofF P Fs)) Q):Tm P Fs cl (program >>= f) Q:=fun N=>.program hk (h N)
theorem tm_map{s:Sem α}{f:α->β}(h:Tm P Fs cl s Q)(hf:∀ a,Q a->R (f a)):Tm P Fs cl (Functor.map f s) R:=h.bind fun a ha=>tm_pure (hf a ha)
theorem tm_load(a:Addr)(m:Mode):Tm P Fs cl (load a m) fun _=>True:=fun _=>.load fun _=>.pure ⟨fun _ x=>x,trivial⟩
theorem tm_store(a:Addr)(v:Value)(m:Mode):Tm P Fs cl (store a v m) fun _=>True:=fun _=>.store (.pure ⟨fun _ x=>x,trivial⟩)
theorem tm_newObj(o:Obj)(ho:CObj cl o):Tm P Fs cl (newObj o) fun _=>True:=fun _=>.new ho fun _=>.pure ⟨fun _ x=>x,trivial⟩
theorem tm_shape(r:Nat):Tm P Fs cl (shape r) fun _=>True:=fun _=>.shape fun _=>.pure ⟨fun _ x=>x,trivial⟩
theorem tm_freeze(a:Addr)(n:Nat):Tm P Fs cl (freeze a n) fun _=>True:=fun _=>.freeze (.pure ⟨fun _ x=>x,trivial⟩)
theorem tm_frozen(a:Addr):Tm P Fs cl (frozen a) fun _=>True:=fun _=>.frozen fun _=>.pure ⟨fun _ x=>x,trivial⟩
theorem tm_choose(q:Question):Tm P Fs cl (choose q) fun _=>True:=fun _=>.choose fun _=>.pure ⟨fun _ x=>x,trivial⟩
theorem tm_askRoom(n:Nat):Tm P Fs cl (askRoom n) fun _=>True:=by
 unfold askRoom
 split
 ·exact fun _=>.mark (.inl rfl) (.pure ⟨fun _ x=>x,trivial⟩)
 ·exact tm_pure trivial
theorem tm_typeInfo(t:TypeId):Tm P Fs cl (typeInfo t) fun _=>True:=by
 refine tm_program rfl ?_
 split
 ·exact tm_pure trivial
 ·exact tm_stuck
theorem tm_underlying(t:TypeId):Tm P Fs cl (underlying t) fun _=>True:=by
 refine tm_program rfl ?_
 split
 ·exact tm_pure trivial
 ·exact tm_stuck
theorem tm_typeStr(t:TypeId):Tm P Fs cl (typeStr t) fun _=>True:=by
 refine (tm_typeInfo t).bind fun i _=>?_
 simp only
 split
 ·exact tm_unsup trivial
 ·exact tm_pure trivial
theorem tm_zeroValue(t:TypeId):Tm P Fs cl (zeroValue t) fun _=>True:=by
 refine (tm_typeInfo t).bind fun i _=>?_
 split
 ·exact tm_pure trivial
 ·exact tm_unsup trivial
theorem tm_sizeOf(t:TypeId):Tm P Fs cl (sizeOf t) fun _=>True:=(tm_typeInfo t).bind fun _ _=>tm_pure trivial
theorem tm_isAgg(t:TypeId):Tm P Fs cl (isAgg t) fun _=>True:=by
 refine (tm_underlying t).bind fun d _=>?_
 split <;> exact tm_pure trivial
theorem tm_loadCellsFrom(a:Addr):∀ (n i:Nat) (acc:Array Value),Tm P Fs cl (loadCellsFrom a i n acc) fun _=>True
 | 0,_,_=>tm_pure trivial
 | n+1,i,acc=>(tm_load _ _).bind fun v _=>tm_loadCellsFrom a n (i+1) _
theorem tm_loadCells(a:Addr)(n:Nat):Tm P Fs cl (loadCells a n) fun _=>True:=tm_loadCellsFrom a n 0 _
theorem tm_storeCells(a:Addr):∀ (vs:List Value) (i:Nat),Tm P Fs cl (storeCells a vs i) fun _=>True
 | [],_=>tm_pure trivial
 | v :: rest,i=>(tm_store _ _ _).bind fun _ _=>tm_storeCells a rest (i+1)
theorem tm_loadVar(t:TypeId)(a:Addr):Tm P Fs cl (loadVar t a) fun _=>True:=by
 refine (tm_isAgg t).bind fun b _=>?_
 split
 ·exact (tm_sizeOf t).bind fun n _=>(tm_loadCells a n).bind fun _ _=>tm_pure trivial
 ·exact tm_load _ _
theorem tm_storeVar(t:TypeId)(a:Addr)(v:Value):Tm P Fs cl (storeVar t a v) fun _=>True:=by
 refine (tm_sizeOf t).bind fun n _=>?_
 simp only
 split
 ·exact tm_stuck
 ·exact tm_storeCells a _ _
theorem tm_newRow(t:TypeId)(c:Array Value):Tm P Fs cl (newRow t c) fun _=>True:=(tm_newObj (.cells c t) trivial).bind fun _ _=>tm_pure trivial
theorem tm_newVar(t:TypeId)(v:Value):Tm P Fs cl (newVar t v) fun _=>True:=tm_newRow t _
theorem tm_elemOf(t:TypeId):Tm P Fs cl (elemOf t) fun _=>True:=by
 refine (tm_underlying t).bind fun d _=>?_
 split
 ·exact tm_pure trivial
 ·exact tm_stuck
theorem tm_part(t:TypeId)(cs:Array Value)(off:Nat):Tm P Fs cl (part t cs off) fun _=>True:=by
 refine (tm_isAgg t).bind fun b _=>?_
 split
 ·exact (tm_sizeOf t).bind fun n _=>tm_pure trivial
 ·split
  ·exact tm_pure trivial
  ·exact tm_stuck
theorem tm_runtimePanic(e:RuntimeError):Tm P Fs cl (runtimePanic (α:=α) e) Q:=by
 cases e with
 | bounds=>exact tm_program rfl tm_panic
 | error=>exact tm_program rfl tm_panic
 | plain=>exact tm_program rfl tm_panic
 | nilDeref=>exact tm_program rfl tm_panic
 | typeAssertion=>exact tm_program rfl ((tm_elemOf _).bind fun _ _=>(tm_newVar _ _).bind fun _ _=>tm_panic)
 | panicNil=>exact tm_program rfl ((tm_elemOf _).bind fun _ _=>(tm_newVar _ _).bind fun _ _=>tm_panic)
 | unhashable=>exact tm_program rfl tm_panic
theorem tm_panicString(m:String):Tm P Fs cl (panicString (α:=α) m) Q:=tm_program rfl tm_panic
theorem tm_boundsPanic(k:IntKind)(x y:Int)(c:BoundsCode):Tm P Fs cl (boundsPanic (α:=α) k x y c) Q:=by
 unfold boundsPanic
 simp only
 split
 ·exact (tm_map (tm_choose _) fun _ _=>trivial).bind (Q:=fun _=>True) fun _ _=>tm_runtimePanic _
 ·exact (tm_pure trivial).bind (Q:=fun _=>True) fun _ _=>tm_runtimePanic _
theorem tm_asIntOf(v:Value):Tm P Fs cl (asIntOf v) fun _=>True:=by
 unfold asIntOf
 split
 ·exact tm_pure trivial
 ·exact tm_unsup trivial
 ·exact tm_stuck
theorem tm_asInt(v:Value):Tm P Fs cl (asInt v) fun _=>True:=(tm_asIntOf v).bind fun _ _=>tm_pure trivial
theorem tm_asBool(v:Value):Tm P Fs cl (asBool v) fun _=>True:=by
 unfold asBool
 split
 ·exact tm_pure trivial
 ·exact tm_stuck
theorem tm_asAgg(v:Value):Tm P Fs cl (asAgg v) fun _=>True:=by
 unfold asAgg
 split
 ·exact tm_pure trivial
 ·exact tm_stuck
theorem tm_asAddr(v:Value):Tm P Fs cl (asAddr v) fun _=>True:=by
 unfold asAddr
 split
 ·exact tm_pure trivial
 ·exact tm_runtimePanic _
 ·exact tm_stuck
theorem tm_markStringish(a:Addr):Tm P Fs cl (markStringish a) fun _=>True:=by
 refine (tm_shape _).bind fun x _=>?_
 split
 ·exact tm_freeze _ _
 ·exact tm_pure trivial
theorem tm_stringish(a:Addr):Tm P Fs cl (stringish a) fun _=>True:=by
 refine (tm_frozen _).bind fun x _=>?_
 split
 ·exact tm_pure trivial
 ·refine (tm_shape _).bind fun y _=>?_
  split
  ·exact tm_frozen _
  ·exact tm_pure trivial
theorem tm_mayBeOne(a b:Addr):Tm P Fs cl (mayBeOne a b) fun _=>True:=by
 have hn:∀ x:Addr,Tm P Fs cl (do pure ((<-shape x.block) matches some (_,0))) fun _=>True:=fun x=>(tm_shape _).bind fun _ _=>tm_pure trivial
 refine (tm_stringish a).bind fun sa _=>(tm_stringish b).bind fun sb _=>?_
 refine (hn a).bind fun _ _=>(hn b).bind fun _ _=>tm_pure trivial
theorem tm_noView(a:Addr):Tm P Fs cl (noView a) fun _=>True:=by
 intro N
 refine .shape fun x=>?_
 cases x with
 | some y=>exact .pure ⟨fun _ x=>x,trivial⟩
 | none=>
   refine .look (fun o ho=>?_) (fun o ho=>?_) (.inl fun b t=>⟨_,rfl,trivial⟩)
   ·cases o <;> first | exact ho.elim | exact .pure ⟨fun _ x=>x,trivial⟩
   ·cases o <;> first | exact ho.elim | rfl
theorem tm_sameAddr(a b:Addr):Tm P Fs cl (sameAddr a b) fun _=>True:=by
 have hrest:Tm P Fs cl (do
  noView a
  noView b
  if <-mayBeOne a b then return (<-choose (.extern "sameAddr.stringBytes" 2)) == 1
  pure false) fun _=>True:=by
  refine (tm_noView a).bind fun _ _=>(tm_noView b).bind fun _ _=>(tm_mayBeOne a b).bind fun x _=>?_
  cases x with
  | true=>exact (tm_choose _).bind fun _ _=>tm_pure trivial
  | false=>exact tm_pure trivial
 unfold sameAddr
 split
 ·exact tm_pure trivial
 refine (tm_frozen a).bind fun fa _=>?_
 cases fa with
 | false=>exact (tm_frozen b).bind fun fb _=>hrest
 | true=>
   refine (tm_frozen b).bind fun fb _=>?_
   cases fb with
   | false=>exact hrest
   | true=>exact tm_unsup trivial
theorem tm_samePointer:∀ a b:Option Addr,Tm P Fs cl (samePointer a b) fun _=>True
 | some a,some b=>tm_sameAddr a b
 | none,_=>tm_pure trivial
 | some _,none=>tm_pure trivial
theorem tm_behindNumber(n:Addr):Tm P Fs cl (behindNumber n) fun _=>True:=by
 intro N
 refine .shape fun x=>?_
 cases x with
 | some y=>exact .pure ⟨fun _ x=>x,trivial⟩
 | none=>
   refine .look (fun o ho=>?_) (fun o ho=>?_) (.inr fun b t=>rfl)
   ·cases o <;> first | exact ho.elim | exact .pure ⟨fun _ x=>x,trivial⟩
   ·cases o <;> first | exact ho.elim | rfl
theorem tm_forIn{γ:Type}(l:List γ)(f:γ->β->Sem (ForInStep β)):∀ (b:β),(∀ x b,Tm P Fs cl (f x b) fun _=>True)->Tm P Fs cl (forIn l b f) fun _=>True:=by
 induction l with
 | nil=>exact fun b _=>tm_pure trivial
 | cons x l ih=>
   intro b h
   rw[List.forIn_cons]
   refine (h x b).bind fun r _=>?_
   cases r with
   | done b=>exact tm_pure trivial
   | yield b=>exact ih b h
end
section
variable {P:Program} {Fs:Array Func} {cl:Loop->Prop} {α β:Type} {Q:α->Prop} {R:β->Prop}
theorem tm_ite{c:Prop}[Decidable c]{a b:Sem α}(ha:Tm P Fs cl a Q)(hb:Tm P Fs cl b Q):Tm P Fs cl (if c then a else b) Q:=by split <;> assumption
class TmC(P:Program)(Fs:Array Func)(cl:Loop->Prop){α:Type}(s:Sem α):Prop where
 out:Tm P Fs cl s fun _=>True
def TmN(P:Program)(Fs:Array Func)(cl:Loop->Prop)(r:Nat){α:Type}(s:Sem α)(Q:α->Prop):Prop:=∀ N:Nat->Prop,N r->TameS P (ofF P Fs) cl (fun _=>False) (fun N' a=>(∀ x,N x->N' x)/\Q a) N s
theorem Tm.toN{r:Nat}{s:Sem α}(h:Tm P Fs cl s Q):TmN P Fs cl r s Q:=fun N _=>h N
theorem TmN.bind{r:Nat}{s:Sem α}{f:α->Sem β}(h:Tm P Fs cl s Q)(hf:∀ a,Q a->TmN P Fs cl r (f a) R):TmN P Fs cl r (s >>= f) R:=
 fun N hr=>(h N).bind fun N' a hn hq=>(hf a hq.2 N' (hn r hr)).mono (fun _ h=>h) fun N2 b hb=>⟨fun x hx=>hb.1 x (hn x hx),hb.2⟩
theorem TmN.bindN{r:Nat}{s:Sem α}{f:α->Sem β}(h:TmN P Fs cl r s Q)(hf:∀ a,Q a->TmN P Fs cl r (f a) R):TmN P Fs cl r (s >>= f) R:=
 fun N hr=>(h N hr).bind fun N' a hn hq=>(hf a hq.2 N' (hn r hr)).mono (fun _ h=>h) fun N2 b hb=>⟨fun x hx=>hb.1 x (hn x hx),hb.2⟩
theorem tmN_set{r:Nat}{o:Obj}(ho:CObj cl o)(hg:Good o):TmN P Fs cl r (setObj r o) fun _=>True:=fun _ hr=>.setObj hr ho hg (.pure ⟨fun _ x=>x,trivial⟩)
theorem tm_get{r:Nat}{f:Obj->Sem β}(hf:∀ o,CObj cl o->o≠.coro none->(Good o->TmN P Fs cl r (f o) R)/\(¬Good o->Tm P Fs cl (f o) R))(h0:∃ e,f (.coro none)=.halt e/\Ends e)(hv:∀ a t,∃ e,f (.view a t)=.halt e/\Ends e)(hj:∀ cl a b,f (.chan 0 #[] cl a b false)=f Jk:=by intros;rfl):Tm P Fs cl (getObj r >>= f) R:=
 fun N=>.getObj (fun o ho hn=>by
  by_cases hg:Good o
  ·exact ((hf o ho hn).1 hg _ (.inr ⟨rfl,hg⟩)).mono (fun _ h=>h) fun N2 b hb=>⟨fun x hx=>hb.1 x (.inl hx),hb.2⟩
  ·exact ((hf o ho hn).2 hg _).mono (fun _ h=>h) fun N2 b hb=>⟨fun x hx=>hb.1 x (.inl hx),hb.2⟩) h0 hv hj
theorem tm_getMap{r:Nat}{f:Obj->Sem β}(hm:∀ es c,TmN P Fs cl r (f (.map es c)) R)(hb:∀ o,(∀ es c,o≠.map es c)->∃ s,f o=stuck s)(hj:∀ cl a b,f (.chan 0 #[] cl a b false)=f Jk:=by intros;rfl):Tm P Fs cl (getObj r >>= f) R:=by
 refine tm_get (fun o ho hn=>?_) ?_ (fun a t=>?_) ?_
 ·by_cases h:∃ es c,o=.map es c
  ·obtain⟨es,c,rfl⟩:=h
   exact⟨fun _=>hm _ _,fun hg=>absurd trivial hg⟩
  ·obtain⟨s,e⟩:=hb o fun es c e=>h ⟨es,c,e⟩
   rw[e]
   exact⟨fun _=>tm_stuck.toN,fun _=>tm_stuck⟩
 ·obtain⟨s,e⟩:=hb (.coro none) (by intros;simp)
  exact⟨_,e,trivial⟩
 ·obtain⟨s,e⟩:=hb (.view a t) (by intros;simp)
  exact⟨_,e,trivial⟩
 ·exact hj
instance {a:α}:TmC P Fs cl (pure a:Sem α):=⟨tm_pure trivial⟩
instance {s:String}:TmC P Fs cl (stuck (α:=α) s):=⟨tm_stuck⟩
instance {v:Value}:TmC P Fs cl (goPanic (α:=α) v):=⟨tm_panic⟩
instance {r:Nat}:TmC P Fs cl (shape r):=⟨tm_shape _⟩
instance {a:Addr}:TmC P Fs cl (frozen a):=⟨tm_frozen _⟩
instance {q:Question}:TmC P Fs cl (choose q):=⟨tm_choose _⟩
instance {n:Nat}:TmC P Fs cl (askRoom n):=⟨tm_askRoom _⟩
instance {t:TypeId}:TmC P Fs cl (typeInfo t):=⟨tm_typeInfo _⟩
instance {t:TypeId}:TmC P Fs cl (underlying t):=⟨tm_underlying _⟩
instance {t:TypeId}:TmC P Fs cl (typeStr t):=⟨tm_typeStr _⟩
instance {t:TypeId}:TmC P Fs cl (zeroValue t):=⟨tm_zeroValue _⟩
instance {t:TypeId}:TmC P Fs cl (sizeOf t):=⟨tm_sizeOf _⟩
instance {a:Addr}{n:Nat}:TmC P Fs cl (loadCells a n):=⟨tm_loadCells _ _⟩
instance {a:Addr}{v:List Value}{i:Nat}:TmC P Fs cl (storeCells a v i):=⟨tm_storeCells _ _ _⟩
instance {t:TypeId}{a:Addr}:TmC P Fs cl (loadVar t a):=⟨tm_loadVar _ _⟩
instance {t:TypeId}{a:Addr}{v:Value}:TmC P Fs cl (storeVar t a v):=⟨tm_storeVar _ _ _⟩
instance {t:TypeId}{c:Array Value}:TmC P Fs cl (newRow t c):=⟨tm_newRow _ _⟩
instance {t:TypeId}{v:Value}:TmC P Fs cl (newVar t v):=⟨tm_newVar _ _⟩
instance {t:TypeId}:TmC P Fs cl (elemOf t):=⟨tm_elemOf _⟩
instance {t:TypeId}{c:Array Value}{o:Nat}:TmC P Fs cl (part t c o):=⟨tm_part _ _ _⟩
instance {e:RuntimeError}:TmC P Fs cl (runtimePanic (α:=α) e):=⟨tm_runtimePanic _⟩
instance {k:IntKind}{x y:Int}{c:BoundsCode}:TmC P Fs cl (boundsPanic (α:=α) k x y c):=⟨tm_boundsPanic _ _ _ _⟩
instance {v:Value}:TmC P Fs cl (asIntOf v):=⟨tm_asIntOf _⟩
instance {v:Value}:TmC P Fs cl (asInt v):=⟨tm_asInt _⟩
instance {v:Value}:TmC P Fs cl (asBool v):=⟨tm_asBool _⟩
instance {v:Value}:TmC P Fs cl (asAgg v):=⟨tm_asAgg _⟩
instance {v:Value}:TmC P Fs cl (asAddr v):=⟨tm_asAddr _⟩
instance {a:Addr}:TmC P Fs cl (markStringish a):=⟨tm_markStringish _⟩
instance {a b:Addr}:TmC P Fs cl (sameAddr a b):=⟨tm_sameAddr _ _⟩
instance {a b:Option Addr}:TmC P Fs cl (samePointer a b):=⟨tm_samePointer _ _⟩
instance {a:Addr}:TmC P Fs cl (behindNumber a):=⟨tm_behindNumber _⟩
instance {s:String}:TmC P Fs cl (panicString (α:=α) s):=⟨tm_panicString _⟩
instance {a:Addr}:TmC P Fs cl (noView a):=⟨tm_noView _⟩
instance:TmC P Fs cl (mark .noRoom):=⟨fun _=>.mark (.inl rfl) (.pure ⟨fun _ x=>x,trivial⟩)⟩
instance {es:Array MapEntry}{c:Nat}:TmC P Fs cl (newObj (.map es c)):=⟨tm_newObj _ trivial⟩
instance {s:ByteArray}{p:Nat}:TmC P Fs cl (newObj (.stringIter s p)):=⟨tm_newObj _ trivial⟩
instance {m:Option Nat}{a:Nat}{s:Array Nat}{b:Nat}:TmC P Fs cl (newObj (.mapIter m a s b)):=⟨tm_newObj _ trivial⟩
instance {a:Addr}{b:Bool}:TmC P Fs cl (newObj (.number a b)):=⟨tm_newObj _ trivial⟩
instance {s:String}:TmC P Fs cl (unsupported (α:=α) (.noEntry s)):=⟨tm_unsup trivial⟩
instance {s:String}:TmC P Fs cl (unsupported (α:=α) (.resourceLimit s)):=⟨tm_unsup trivial⟩
instance {s:String}:TmC P Fs cl (unsupported (α:=α) (.unsafePointer s)):=⟨tm_unsup trivial⟩
instance:TmC P Fs cl (unsupported (α:=α) .addressObserved):=⟨tm_unsup trivial⟩
theorem tmS4a{s:Sem α}(h:Tm P Fs cl s Q:=by repeat (first | exact TmC.out | refine Tm.bind (Q:=fun _=>True) ?_ fun _ _=>?_ | refine tm_ite ?_ ?_ | split | dsimp only)):Tm P Fs cl s Q:=h
instance tm_sureAddr(v:Value):TmC P Fs cl (Instr.sureAddr v):=⟨by
 unfold Instr.sureAddr
 repeat exact tmS4a⟩
instance tm_loadAt(t:TypeId)(v:Value):TmC P Fs cl (Instr.loadAt t v):=⟨by
 unfold Instr.loadAt
 repeat exact tmS4a⟩
instance tm_storeAt(t:TypeId)(a v:Value):TmC P Fs cl (Instr.storeAt t a v):=⟨by
 unfold Instr.storeAt
 repeat exact tmS4a⟩
instance tm_alloc(t:TypeId)(b:Bool)(v:Value):TmC P Fs cl (Instr.alloc t b v):=⟨by
 unfold Instr.alloc
 repeat exact tmS4a⟩
instance tm_box(t:TypeId)(v:Value):TmC P Fs cl (Instr.box t v):=⟨by
 unfold Instr.box
 repeat exact tmS4a⟩
instance tm_indexAt(t:TypeId)(x i:Value):TmC P Fs cl (Instr.indexAt t x i):=⟨by
 unfold Instr.indexAt
 repeat exact tmS4a⟩
instance tm_extract(t:Value)(i:Nat):TmC P Fs cl (Instr.extract t i):=⟨by
 unfold Instr.extract
 repeat exact tmS4a⟩
instance tm_field(t:TypeId)(x:Value)(f:Nat):TmC P Fs cl (Instr.field t x f):=⟨by
 unfold Instr.field
 repeat exact tmS4a⟩
instance tm_index(t:TypeId)(x i:Value):TmC P Fs cl (Instr.index t x i):=⟨by
 unfold Instr.index
 repeat exact tmS4a⟩
instance tm_makeInterface(t:TypeId)(x:Value):TmC P Fs cl (Instr.makeInterface t x):=⟨by
 unfold Instr.makeInterface
 repeat exact tmS4a⟩
instance tm_makeMap(t:TypeId)(x:Option Value):TmC P Fs cl (Instr.makeMap t x):=⟨by
 unfold Instr.makeMap
 repeat exact tmS4a⟩
instance tm_makeSlice(t:TypeId)(l c:Value):TmC P Fs cl (Instr.makeSlice t l c):=⟨by
 unfold Instr.makeSlice
 repeat exact tmS4a⟩
instance tm_buildSlice(t:TypeId)(n:Nat)(ps:Array (Nat×Value)):TmC P Fs cl (Instr.buildSlice t n ps):=⟨by
 unfold Instr.buildSlice
 repeat exact tmS4a⟩
instance tm_sliceBound(x:Value)(y:Nat)(c:BoundsCode):TmC P Fs cl (Instr.sliceBound x y c):=⟨by
 unfold Instr.sliceBound
 repeat exact tmS4a⟩
instance tm_sliceBounds(b:Bool)(l c:Nat)(x y z:Option Value):TmC P Fs cl (Instr.sliceBounds b l c x y z):=⟨by
 unfold Instr.sliceBounds
 repeat exact tmS4a⟩
instance tm_slice(t:TypeId)(x:Value)(l h m:Option Value):TmC P Fs cl (Instr.slice t x l h m):=⟨by
 unfold Instr.slice
 repeat exact tmS4a⟩
instance tm_sliceAt(t:TypeId)(x:Value)(l h m:Option Value):TmC P Fs cl (Instr.sliceAt t x l h m):=⟨by
 unfold Instr.sliceAt
 repeat exact tmS4a⟩
instance tm_typeAssert(x:Value)(t u:TypeId)(b:Bool):TmC P Fs cl (Instr.typeAssert x t u b):=⟨by
 unfold Instr.typeAssert
 repeat exact tmS4a⟩
instance tm_intArith(op:BinOp)(k:IntKind)(x y:Int):TmC P Fs cl (Op.intArith op k x y):=⟨by
 unfold Op.intArith
 repeat exact tmS4a⟩
instance tm_intBits(op:BinOp)(k:IntKind)(x y:Int):TmC P Fs cl (Op.intBits op k x y):=⟨by
 unfold Op.intBits
 repeat exact tmS4a⟩
instance tm_intCmp(op:BinOp)(x y:Int):TmC P Fs cl (Op.intCmp op x y):=⟨by
 unfold Op.intCmp
 repeat exact tmS4a⟩
instance tm_intDiv(op:BinOp)(k:IntKind)(x y:Int):TmC P Fs cl (Op.intDiv op k x y):=⟨by
 unfold Op.intDiv
 repeat exact tmS4a⟩
instance tm_shift(op:BinOp)(k:IntKind)(x:Int)(j:IntKind)(y:Int):TmC P Fs cl (Op.shift op k x j y):=⟨by
 unfold Op.shift
 repeat exact tmS4a⟩
instance tm_stringOp(op:BinOp)(x y:ByteArray):TmC P Fs cl (Op.stringOp op x y):=⟨by
 unfold Op.stringOp
 repeat exact tmS4a⟩
instance tm_unary(op:UnOp)(x:Value):TmC P Fs cl (Op.unary op x):=⟨by
 unfold Op.unary
 repeat exact tmS4a⟩
instance tm_lenOf(x:Value):TmC P Fs cl (Builtin.lenOf x):=⟨by
 unfold Builtin.lenOf
 repeat exact tmS4a⟩
instance tm_firstCells(a b:Nat)(x:Value):TmC P Fs cl (Builtin.firstCells a b x):=⟨by
 unfold Builtin.firstCells
 repeat exact tmS4a⟩
instance tm_holdsCells(a:Addr)(n:Nat):TmC P Fs cl (Builtin.holdsCells a n):=⟨by
 unfold Builtin.holdsCells
 repeat exact tmS4a⟩
instance tm_mayShare(a b c:Nat)(x:Option Addr)(y:Value):TmC P Fs cl (Builtin.mayShare a b c x y):=⟨by
 unfold Builtin.mayShare
 repeat exact tmS4a⟩
instance tm_append(a:Array TypeId)(t:TypeId)(b:Array Value):TmC P Fs cl (Builtin.append_ a t b):=⟨by
 unfold Builtin.append_
 repeat exact tmS4a⟩
instance tm_copy(a:Array TypeId)(t:TypeId)(b:Array Value):TmC P Fs cl (Builtin.copy_ a t b):=⟨by
 unfold Builtin.copy_
 repeat exact tmS4a⟩
instance tm_min2(x y:Value):TmC P Fs cl (Builtin.min2 x y):=⟨by
 unfold Builtin.min2
 repeat exact tmS4a⟩
instance tm_max2(x y:Value):TmC P Fs cl (Builtin.max2 x y):=⟨by
 unfold Builtin.max2
 repeat exact tmS4a⟩
instance tm_intToInt(k:IntKind)(n:Int):TmC P Fs cl (Conv.intToInt k n):=⟨by
 unfold Conv.intToInt
 repeat exact tmS4a⟩
instance tm_intToString(n:Int):TmC P Fs cl (Conv.intToString n):=⟨by
 unfold Conv.intToString
 repeat exact tmS4a⟩
instance tm_stringToBytes(t:TypeId)(s:ByteArray):TmC P Fs cl (Conv.stringToBytes t s):=⟨by
 unfold Conv.stringToBytes
 repeat exact tmS4a⟩
end
end
section
open Go
set_option maxRecDepth 100000
section
variable {P:Program} {Fs:Array Func} {cl:Loop->Prop} {α β:Type} {Q:α->Prop} {R:β->Prop}
theorem cellsOf_ofF(t:TypeId):(ofF P Fs).cellsOf t=P.cellsOf t:=rfl
theorem bytesOf_ofF(t:TypeId):(ofF P Fs).bytesOf t=P.bytesOf t:=rfl
theorem depth_ofF:(ofF P Fs).depth=P.depth:=rfl
theorem globals_ofF:(ofF P Fs).globals=P.globals:=rfl
theorem byteOfCell_ofF:∀ (d:Nat) (t:TypeId) (o:Nat),byteOfCell (ofF P Fs) d t o=byteOfCell P d t o
 | 0,_,_=>rfl
 | d+1,t,o=>by
   unfold byteOfCell
   have ih:=byteOfCell_ofF d
   simp only[ih]
   rfl
theorem cellOfByte_ofF:∀ (d:Nat) (t:TypeId) (o:Nat),cellOfByte (ofF P Fs) d t o=cellOfByte P d t o
 | 0,_,_=>rfl
 | d+1,t,o=>by
   unfold cellOfByte
   have ih:=cellOfByte_ofF d
   simp only[ih]
   rfl
theorem cellAtBytes_ofF(d:Nat)(t:TypeId)(a b:Nat)(c:Int):cellAtBytes (ofF P Fs) d t a b c=cellAtBytes P d t a b c:=by
 unfold cellAtBytes
 simp only[byteOfCell_ofF,cellOfByte_ofF,cellsOf_ofF,bytesOf_ofF]
 rfl
theorem eqGuardType_ofF:∀ (d:Nat) (t:TypeId),(ofF P Fs).eqGuardType d t=P.eqGuardType d t
 | 0,_=>rfl
 | d+1,t=>by
   unfold Program.eqGuardType
   have ih:=eqGuardType_ofF d
   simp only[ih]
   rfl
theorem info_ofF(t:TypeId):(ofF P Fs).info? t=P.info? t:=rfl
theorem underlying_ofF(t:TypeId):(ofF P Fs).underlying t=P.underlying t:=rfl
theorem underlyingId_ofF(t:TypeId):(ofF P Fs).underlyingId t=P.underlyingId t:=rfl
theorem cutTypes_ofF:(ofF P Fs).cutTypes=P.cutTypes:=rfl
theorem alike_ofF:∀ (d:Nat) (t u:TypeId),(ofF P Fs).alikeButTags d t u=P.alikeButTags d t u
 | 0,_,_=>rfl
 | d+1,t,u=>by
   unfold Program.alikeButTags
   have ih:=alike_ofF d
   simp only[ih,info_ofF]
theorem stoodInAs_ofF(t:TypeId):(ofF P Fs).stoodInAs t=P.stoodInAs t:=by
 unfold Program.stoodInAs
 simp only[alike_ofF,underlying_ofF,underlyingId_ofF,cutTypes_ofF,depth_ofF]
theorem stoodInHeld_ofF(t:TypeId):(ofF P Fs).stoodInHeld t=P.stoodInHeld t:=by
 unfold Program.stoodInHeld
 simp only[stoodInAs_ofF,info_ofF]
theorem ownRow_ofF(c:String×TypeId):(ofF P Fs).ownRow c=P.ownRow c:=by
 unfold Program.ownRow
 simp only[info_ofF,underlying_ofF,cutTypes_ofF]
theorem packed_ofF(t:TypeId):(ofF P Fs).packed t=P.packed t:=by
 unfold Program.packed Program.packedAs
 simp only[alike_ofF,underlying_ofF,underlyingId_ofF,cutTypes_ofF,depth_ofF,ownRow_ofF,info_ofF]
theorem holdsPacked_ofF:∀ (d:Nat) (t:TypeId),(ofF P Fs).holdsPacked d t=P.holdsPacked d t
 | 0,_=>rfl
 | d+1,t=>by
   unfold Program.holdsPacked
   have ih:=holdsPacked_ofF d
   simp only[ih,packed_ofF,underlying_ofF]
theorem tm_forA{γ:Type}{l:Array γ}{f:γ->β->Sem (ForInStep β)}{b:β}(h:∀ x b,Tm P Fs cl (f x b) fun _=>True):Tm P Fs cl (forIn l b f) fun _=>True:=by
 have e:forIn l b f=forIn l.toList b f:=(Array.forIn_toList (m:=Sem)).symm
 rw[e]
 exact tm_forIn _ _ _ h
theorem tm_forR{r:Std.Legacy.Range}{f:Nat->β->Sem (ForInStep β)}{b:β}(h:∀ x b,Tm P Fs cl (f x b) fun _=>True):Tm P Fs cl (forIn r b f) fun _=>True:=by
 have e:=Std.Legacy.Range.forIn_eq_forIn_range' (m:=Sem) r b f
 rw[e]
 exact tm_forIn _ _ _ h
theorem tmS5a{s:Sem α}(h:Tm P Fs cl s Q:=by repeat (first | exact TmC.out | (with_reducible refine tm_program ?_ ?_;· first | (simp only[byteOfCell_ofF,cellAtBytes_ofF,eqGuardType_ofF,holdsPacked_ofF,stoodInHeld_ofF,cellsOf_ofF,bytesOf_ofF,depth_ofF,globals_ofF] <;> rfl) | rfl) | with_reducible refine Tm.bind (Q:=fun _=>True) ?_ fun _ _=>?_ | with_reducible refine tm_ite ?_ ?_ | with_reducible refine tm_forIn _ _ _ fun _ _=>?_ | with_reducible refine tm_forA fun _ _=>?_ | with_reducible refine tm_forR fun _ _=>?_ | split | dsimp only)):Tm P Fs cl s Q:=h
instance {a:Addr}:TmC P Fs cl (byteOf a):=⟨by
 unfold byteOf
 repeat exact tmS5a⟩
instance {a:Addr}{b c:Nat}:TmC P Fs cl (partAt a b c):=⟨by
 unfold partAt
 repeat exact tmS5a⟩
instance {a:Addr}{f:Field}:TmC P Fs cl (fieldPlace a f):=⟨by
 unfold fieldPlace
 repeat exact tmS5a⟩
instance {t:TypeId}{a:Value}{f:Nat}:TmC P Fs cl (Instr.fieldAt t a f):=⟨by
 unfold Instr.fieldAt
 repeat exact tmS5a⟩
theorem tm_getMapR{r:Nat}{f:Obj->Sem β}(hm:∀ es c,Tm P Fs cl (f (.map es c)) R)(hb:∀ o,(∀ es c,o≠.map es c)->∃ s,f o=stuck s)(hj:∀ cl a b,f (.chan 0 #[] cl a b false)=f Jk:=by intros;rfl):Tm P Fs cl (getObj r >>= f) R:=tm_getMap (fun es c=>(hm es c).toN) hb hj
theorem tmN_ite{r:Nat}{c:Prop}[Decidable c]{a b:Sem α}(ha:TmN P Fs cl r a Q)(hb:TmN P Fs cl r b Q):TmN P Fs cl r (if c then a else b) Q:=by split <;> assumption
theorem tmS5b{s:Sem α}(h:Tm P Fs cl s Q:=by repeat (first | exact TmC.out | (with_reducible refine tm_program ?_ ?_;· first | (simp only[byteOfCell_ofF,cellAtBytes_ofF,eqGuardType_ofF,holdsPacked_ofF,stoodInHeld_ofF,cellsOf_ofF,bytesOf_ofF,depth_ofF,globals_ofF] <;> rfl) | rfl) | with_reducible refine Tm.bind (Q:=fun _=>True) ?_ fun _ _=>?_ | with_reducible refine tm_ite ?_ ?_ | with_reducible refine tm_forIn _ _ _ fun _ _=>?_ | with_reducible refine tm_forA fun _ _=>?_ | with_reducible refine tm_forR fun _ _=>?_ | (with_reducible refine tm_getMapR (fun _ _=>?_) fun o ho=>by cases o <;> first | exact⟨_,rfl⟩ | exact absurd rfl (ho _ _)) | split | dsimp only)):Tm P Fs cl s Q:=h
instance {a b:Addr}:TmC P Fs cl (Op.twoPlaces a b):=⟨by
 unfold Op.twoPlaces
 repeat exact tmS5b⟩
instance {k:IntKind}{a b:Addr}:TmC P Fs cl (Op.addrSub k a b):=⟨by
 unfold Op.addrSub
 repeat exact tmS5b⟩
instance {op:BinOp}{a b:Addr}:TmC P Fs cl (Op.addrCmp op a b):=⟨by
 unfold Op.addrCmp
 repeat exact tmS5b⟩
instance {k:IntKind}{a:Addr}{n:Int}:TmC P Fs cl (Op.addrMod k a n):=⟨by
 unfold Op.addrMod
 repeat exact tmS5b⟩
theorem tmc_equalIn:∀ (d:Nat) (t:TypeId) (x y:Value),TmC P Fs cl (Op.equalIn d t x y)
 | 0,_,_,_=>⟨tm_unsup trivial⟩
 | d+1,t,x,y=>by
   have ih:∀ (t:TypeId) (x y:Value),TmC P Fs cl (Op.equalIn d t x y):=tmc_equalIn d
   exact⟨by
    unfold Op.equalIn
    repeat exact tmS5b⟩
instance {d:Nat}{t:TypeId}{x y:Value}:TmC P Fs cl (Op.equalIn d t x y):=tmc_equalIn d _ _ _
instance {t:TypeId}{x y:Value}:TmC P Fs cl (Op.equal t x y):=⟨by
 unfold Op.equal
 repeat exact tmS5b⟩
theorem tmc_eqGuardIn:∀ (d:Nat) (t:TypeId) (x y:Value),TmC P Fs cl (Op.eqGuardIn d t x y)
 | 0,_,_,_=>⟨tm_unsup trivial⟩
 | d+1,t,x,y=>by
   have ih:∀ (t:TypeId) (x y:Value),TmC P Fs cl (Op.eqGuardIn d t x y):=tmc_eqGuardIn d
   exact⟨by
    unfold Op.eqGuardIn
    repeat exact tmS5b⟩
instance {d:Nat}{t:TypeId}{x y:Value}:TmC P Fs cl (Op.eqGuardIn d t x y):=tmc_eqGuardIn d _ _ _
instance {op:BinOp}{t:TypeId}{x y:Operand}{a b:Value}:TmC P Fs cl (eqGuard op t x y a b):=⟨by
 unfold eqGuard
 repeat exact tmS5b⟩
theorem tmc_checkKey(e:Bool):∀ (d:Nat) (t:TypeId) (v:Value),TmC P Fs cl (Instr.checkKey e d t v)
 | 0,_,_=>⟨tm_unsup trivial⟩
 | d+1,t,v=>by
   have ih:∀ (t:TypeId) (v:Value),TmC P Fs cl (Instr.checkKey e d t v):=tmc_checkKey e d
   exact⟨by
    unfold Instr.checkKey
    repeat exact tmS5b⟩
instance {e:Bool}{d:Nat}{t:TypeId}{v:Value}:TmC P Fs cl (Instr.checkKey e d t v):=tmc_checkKey e d _ _
end
end
section
open Go
section
variable {P:Program} {Fs:Array Func} {cl:Loop->Prop} {α β:Type} {Q:α->Prop} {R:β->Prop}
theorem tm_pureBind{a:α}{f:α->Sem β}(h:Tm P Fs cl (f a) R):Tm P Fs cl (pure a >>= f) R:=h
theorem tm_stuckBind{s:String}{f:α->Sem β}:Tm P Fs cl (stuck s >>= f) R:=tm_stuck
theorem tmS6a{s:Sem α}(h:Tm P Fs cl s Q:=by repeat (first | exact TmC.out | with_reducible refine tm_pureBind ?_ | with_reducible exact tm_stuckBind | (with_reducible refine tm_program ?_ ?_;· first | (simp only[byteOfCell_ofF,cellAtBytes_ofF,eqGuardType_ofF,holdsPacked_ofF,stoodInHeld_ofF,cellsOf_ofF,bytesOf_ofF,depth_ofF,globals_ofF] <;> rfl) | rfl) | (with_reducible refine tm_getMapR (fun _ _=>?_) fun o ho=>by cases o <;> first | exact⟨_,rfl⟩ | exact absurd rfl (ho _ _)) | with_reducible refine Tm.bind (Q:=fun _=>True) ?_ fun _ _=>?_ | with_reducible refine tm_ite ?_ ?_ | with_reducible refine tm_forIn _ _ _ fun _ _=>?_ | with_reducible refine tm_forA fun _ _=>?_ | with_reducible refine tm_forR fun _ _=>?_ | split | dsimp only)):Tm P Fs cl s Q:=h
instance {op:BinOp}{k:FloatKind}{x y:Nat}:TmC P Fs cl (Op.floatArith op k x y):=⟨by
 unfold Op.floatArith
 repeat exact tmS6a⟩
instance {op:BinOp}{k:FloatKind}{x y:Nat}:TmC P Fs cl (Op.floatCmp op k x y):=⟨by
 unfold Op.floatCmp
 repeat exact tmS6a⟩
instance {k:FloatKind}{x:Nat}{d:FloatKind}:TmC P Fs cl (Conv.floatToFloat k x d):=⟨by
 unfold Conv.floatToFloat
 repeat exact tmS6a⟩
instance {k:FloatKind}{x:Nat}{d:IntKind}:TmC P Fs cl (Conv.floatToInt k x d):=⟨by
 unfold Conv.floatToInt
 repeat exact tmS6a⟩
instance {k:FloatKind}{n:Int}:TmC P Fs cl (Conv.intToFloat k n):=⟨by
 unfold Conv.intToFloat
 repeat exact tmS6a⟩
instance {k:FloatKind}{x y:Nat}{d:FloatKind}:TmC P Fs cl (Conv.complexToComplex k x y d):=⟨by
 unfold Conv.complexToComplex
 repeat exact tmS6a⟩
instance {op:BinOp}{k:FloatKind}{x y:Nat}:TmC P Fs cl (Op.Complex.arith op k x y):=⟨by
 unfold Op.Complex.arith
 repeat exact tmS6a⟩
instance {op:BinOp}{k:FloatKind}{x y:Nat}:TmC P Fs cl (Op.Complex.cmp op k x y):=⟨by
 unfold Op.Complex.cmp
 repeat exact tmS6a⟩
instance {k:FloatKind}{x:Nat}{d:FloatKind}:TmC P Fs cl (Op.Complex.conv k x d):=⟨by
 unfold Op.Complex.conv
 repeat exact tmS6a⟩
instance {x y:Nat}:TmC P Fs cl (Op.Complex.add x y):=⟨by
 unfold Op.Complex.add
 repeat exact tmS6a⟩
instance {x y:Nat}:TmC P Fs cl (Op.Complex.sub x y):=⟨by
 unfold Op.Complex.sub
 repeat exact tmS6a⟩
instance {x y:Nat}:TmC P Fs cl (Op.Complex.mul x y):=⟨by
 unfold Op.Complex.mul
 repeat exact tmS6a⟩
instance {x y:Nat}:TmC P Fs cl (Op.Complex.quo x y):=⟨by
 unfold Op.Complex.quo
 repeat exact tmS6a⟩
instance {a b c d:Nat}:TmC P Fs cl (Op.Complex.product a b c d):=⟨by
 unfold Op.Complex.product
 repeat exact tmS6a⟩
instance {s a b c d:Nat}:TmC P Fs cl (Op.Complex.corrected s a b c d):=⟨by
 unfold Op.Complex.corrected
 repeat exact tmS6a⟩
instance {a b c d:Nat}:TmC P Fs cl (Op.Complex.quotient a b c d):=⟨by
 unfold Op.Complex.quotient
 repeat exact tmS6a⟩
instance {op:BinOp}{k:FloatKind}{a b c d:Nat}:TmC P Fs cl (Op.complexOp op k a b c d):=⟨by
 unfold Op.complexOp
 repeat exact tmS6a⟩
instance {x:Value}:TmC P Fs cl (Conv.bytesToString x):=⟨by
 unfold Conv.bytesToString
 repeat exact tmS6a⟩
instance {x:Value}:TmC P Fs cl (Conv.runesToString x):=⟨by
 unfold Conv.runesToString
 repeat exact tmS6a⟩
instance {t:TypeId}{s:ByteArray}:TmC P Fs cl (Conv.stringToRunes t s):=⟨by
 unfold Conv.stringToRunes
 repeat exact tmS6a⟩
theorem tm_viewAt{r:Nat}{f:Option (Addr×TypeId)->Sem β}(hs:∀ x,∃ e,f (some x)=.halt e/\Ends e)(h:Tm P Fs cl (f none) R):Tm P Fs cl (viewAt r >>= f) R:=by
 intro N
 refine .shape fun x=>?_
 cases x with
 | some y=>exact h N
 | none=>
   refine .look (fun o ho=>?_) (fun o ho=>?_) (.inl fun b t=>hs _)
   ·cases o <;> first | exact ho.elim | exact h N
   ·cases o <;> first | exact ho.elim | rfl
instance {n:Nat}:TmC P Fs cl (numberAt n):=⟨by
 intro N
 refine .shape fun x=>?_
 cases x with
 | some y=>exact .pure ⟨fun _ x=>x,trivial⟩
 | none=>
   refine .look (fun o ho=>?_) (fun o ho=>?_) (.inr fun b t=>rfl)
   ·cases o <;> first | exact ho.elim | exact .pure ⟨fun _ x=>x,trivial⟩
   ·cases o <;> first | exact ho.elim | rfl⟩
instance {t:TypeId}{x y:Value}:TmC P Fs cl (Builtin.unsafeAdd_ #[] t #[x,y]):=⟨by
 cases x <;> (try exact tm_stuck)
 change Tm P Fs cl (asInt y >>= _) _
 repeat (first | exact TmC.out | with_reducible refine tm_pureBind ?_ | with_reducible exact tm_stuckBind | (with_reducible refine tm_program ?_ ?_;· first | (simp only[byteOfCell_ofF,cellAtBytes_ofF,eqGuardType_ofF,holdsPacked_ofF,stoodInHeld_ofF,cellsOf_ofF,bytesOf_ofF,depth_ofF,globals_ofF] <;> rfl) | rfl) | (with_reducible refine tm_getMapR (fun _ _=>?_) fun o ho=>by cases o <;> first | exact⟨_,rfl⟩ | exact absurd rfl (ho _ _)) | ((with_reducible refine tm_viewAt ?_ ?_);· exact fun x=>⟨_,rfl,trivial⟩) | with_reducible refine Tm.bind (Q:=fun _=>True) ?_ fun _ _=>?_ | with_reducible refine tm_ite ?_ ?_ | with_reducible refine tm_forIn _ _ _ fun _ _=>?_ | with_reducible refine tm_forA fun _ _=>?_ | with_reducible refine tm_forR fun _ _=>?_ | ((with_reducible refine tm_viewAt ?_ ?_);· exact fun x=>⟨_,rfl,trivial⟩) | split | dsimp only)⟩
instance {a:Addr}{b:Bool}:TmC P Fs cl (asNumber a b):=⟨by
 unfold asNumber
 repeat exact tmS6a⟩
instance {t:TypeId}{x y:Value}:TmC P Fs cl (movedNumber t x y):=⟨by
 unfold movedNumber
 repeat exact tmS6a⟩
instance {t:TypeId}{x y:Value}:TmC P Fs cl (movedPointer t x y):=⟨by
 unfold movedPointer
 repeat exact tmS6a⟩
instance {op:BinOp}{t:TypeId}{x y:Value}:TmC P Fs cl (binOp op t x y):=⟨by
 unfold binOp
 repeat exact tmS6a⟩
instance {a b:Value}:TmC P Fs cl (Instr.keyThatStays a b):=⟨by
 unfold Instr.keyThatStays
 repeat exact tmS6a⟩
theorem tmc_findAsking(t:TypeId)(k:Value):∀ (es:List MapEntry) (i:Nat),TmC P Fs cl (Instr.findAsking t k es i)
 | [],_=>⟨tm_pure trivial⟩
 | e :: es,i=>by
   have ih:∀ i,TmC P Fs cl (Instr.findAsking t k es i):=tmc_findAsking t k es
   exact⟨by
    unfold Instr.findAsking
    repeat exact tmS6a⟩
instance {t:TypeId}{k:Value}{es:List MapEntry}{i:Nat}:TmC P Fs cl (Instr.findAsking t k es i):=tmc_findAsking t k es i
instance {t:TypeId}{k:Value}{es:List MapEntry}:TmC P Fs cl (Instr.findKey t k es):=⟨by
 unfold Instr.findKey
 repeat exact tmS6a⟩
instance {t:TypeId}{x i:Value}{b:Bool}:TmC P Fs cl (Instr.lookup t x i b):=⟨by
 unfold Instr.lookup
 repeat exact tmS6a⟩
theorem tmS6b{s:Sem α}(h:Tm P Fs cl s Q:=by repeat (first | exact TmC.out | with_reducible refine tm_pureBind ?_ | with_reducible exact tm_stuckBind | (with_reducible refine tm_program ?_ ?_;· first | (simp only[byteOfCell_ofF,cellAtBytes_ofF,eqGuardType_ofF,holdsPacked_ofF,stoodInHeld_ofF,cellsOf_ofF,bytesOf_ofF,depth_ofF,globals_ofF] <;> rfl) | rfl) | (with_reducible refine tm_getMap (fun _ _=>?_) fun o ho=>by cases o <;> first | exact⟨_,rfl⟩ | exact absurd rfl (ho _ _)) | exact Tm.toN TmC.out | exact tmN_set trivial trivial | with_reducible refine TmN.bind (Q:=fun _=>True) TmC.out fun _ _=>?_ | with_reducible refine TmN.bindN (Q:=fun _=>True) ?_ fun _ _=>?_ | with_reducible refine tmN_ite ?_ ?_ | with_reducible refine Tm.bind (Q:=fun _=>True) ?_ fun _ _=>?_ | with_reducible refine tm_ite ?_ ?_ | with_reducible refine tm_forIn _ _ _ fun _ _=>?_ | with_reducible refine tm_forA fun _ _=>?_ | with_reducible refine tm_forR fun _ _=>?_ | split | dsimp only)):Tm P Fs cl s Q:=h
instance {t:TypeId}{m k v:Value}:TmC P Fs cl (Instr.mapUpdate t m k v):=⟨by
 unfold Instr.mapUpdate
 repeat exact tmS6b⟩
instance {t:TypeId}{m k:Value}:TmC P Fs cl (Instr.mapEntry t m k):=⟨by
 unfold Instr.mapEntry
 repeat exact tmS6b⟩
instance {t:TypeId}{m s v:Value}:TmC P Fs cl (Instr.entryStore t m s v):=⟨by
 unfold Instr.entryStore
 repeat exact tmS6b⟩
instance {a:Array TypeId}{t:TypeId}{b:Array Value}:TmC P Fs cl (Builtin.clear_ a t b):=⟨by
 unfold Builtin.clear_
 repeat exact tmS6b⟩
instance {a:Array TypeId}{t:TypeId}{b:Array Value}:TmC P Fs cl (Builtin.delete_ a t b):=⟨by
 unfold Builtin.delete_
 repeat exact tmS6b⟩
instance {t:TypeId}{x:Value}:TmC P Fs cl (Instr.range t x):=⟨by
 unfold Instr.range
 repeat exact tmS6a⟩
end
end
end Go.Proofs.YticobikhndlejaaGreatDoor
