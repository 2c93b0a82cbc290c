/- Part 4 of the proof (see the last part). -/
import Derived.Test.YticobikhndlejaaGreatDoorAlC
import Derived.Test.YticobikhndlejaaGreatDoorRows
import Derived.Conc.TokenWords
namespace Go.Proofs.YticobikhndlejaaGreatDoor
section
open Go Go.Conc
structure Two(rt gt:Array Value):Prop where
 rsz:53<=rt.size
 gsz:84<=gt.size
 eq:∀ i,i<53->gt[i]?=rt[i]?
def slotOk:Operand->Bool
 | .tmp t=>decide (t<53)
 | _=>true
def opIn(P:Program)(D:FuncId)(prot:List Nat)(o:Oper):Bool:=
 okOp P o.op && simpleOp D o.op && o.guard.isNone && o.op.operands.all slotOk && (match o.dst with | some d=>decide (d<53) && !prot.contains d | none=>true)
theorem putT_size(t:Array Value)(d:Option Nat)(v:Value):(putT t d v).size=t.size:=by cases d <;> simp[putT]
theorem putT_ne{t:Array Value}{d:Option Nat}{v:Value}{p:Nat}(h:d≠some p):(putT t d v)[p]?=t[p]?:=by
 cases d with
 | none=>rfl
 | some d=>simp only[putT];rw[Array.getElem?_setIfInBounds_ne (fun e=>h (by rw[e]))]
theorem putT_self{t:Array Value}{d:Nat}{v:Value}(h:d<t.size):(putT t (some d) v)[d]?=some v:=by
 simp only[putT]
 exact Array.getElem?_setIfInBounds_self_of_lt h
section
variable {rt gt:Array Value} {D:FuncId}
theorem Two.eval(h:Two rt gt){x:Operand}(hx:slotOk x=true):(fD D rt []).eval x=(fD D gt []).eval x:=by
 cases x with
 | tmp t=>
   have ht:t<53:=by simpa[slotOk]using hx
   have:=h.eq t ht
   show rt.getD t undef=gt.getD t undef
   rw[Array.getD_eq_getD_getElem?,Array.getD_eq_getD_getElem?,this]
 | _=>rfl
theorem Two.put(h:Two rt gt){d:Option Nat}(hd:∀ x,d=some x->x<53)(v:Value):Two (putT rt d v) (putT gt d v):=by
 refine⟨by rw[putT_size];exact h.rsz,by rw[putT_size];exact h.gsz,fun i hi=>?_⟩
 by_cases e:d=some i
 ·subst e
  rw[putT_self (by have:=h.gsz;omega),putT_self (by have:=h.rsz;omega)]
 ·rw[putT_ne e,putT_ne e]
  exact h.eq i hi
theorem Two.own(h:Two rt gt){d:Nat}(hd:53<=d)(v:Value):Two rt (putT gt (some d) v):=
 ⟨h.rsz,by rw[putT_size];exact h.gsz,fun i hi=>by rw[putT_ne (by simp;omega)];exact h.eq i hi⟩
end
section
variable {P:Program} {F:Array Func} {E:List String} {D f:FuncId} {Post:Value->World->Prop} {c c':Frame} {gs rs:List Frame} {Inb:Nat->Option Seat}
theorem no_select{o:Oper}(h:simpleOp D o.op=true)(cs:Array SelectCase)(b:Bool):o.op≠.select cs b:=fun e=>by rw[e]at h;cases h
theorem wanted_none{o:Oper}(h:o.guard.isNone=true)(y:Nat->Option Bool):Region.wanted o y=true:=by
 unfold Region.wanted
 cases e:o.guard with
 | none=>rfl
 | some x=>rw [e]at h;cases h
theorem reg_both(hE:Ext P E)(hA:Alike P F E D){prot:List Nat}{ops ops':Array Oper}{rest:List Nat}{kg kr:List Item}:∀ (l:List Nat) {s:Pt},s.Ok P F E D f Post c c' gs rs Inb->Fwd P F E D f Post c gs s->s.gk=.inRegion ops (l ++ rest) :: kg->s.rk=.inRegion ops' (l ++ rest) :: kr->
  (∀ i∈l,∃ o,ops[i]?=some o/\ops'[i]?=some o/\opIn P D prot o=true)->Two s.rt s.gt->
  ∃ s':Pt,s'.Ok P F E D f Post c c' gs rs Inb/\Way P F E D c gs s.J s s'/\s'.gk=.inRegion ops rest :: kg/\s'.rk=.inRegion ops' rest :: kr/\Two s'.rt s'.gt/\∀ p,(p∈prot\/53<=p)->s'.gt[p]?=s.gt[p]?
 | [],s,h,_,hg,hr,_,h2=>⟨s,h,.refl _,hg,hr,h2,fun _ _=>rfl⟩
 | i :: l,s,h,ih,hg,hr,hl,h2=>by
   obtain⟨o,h3,h4,h5⟩:=hl i List.mem_cons_self
   simp only[opIn,Bool.and_eq_true]at h5
   obtain⟨⟨⟨⟨h6,h7⟩,h8⟩,h9⟩,h10⟩:=h5
   have hd:∀ x,o.dst=some x->x<53/\x ∉ prot:=fun x hx=>by
    rw[hx]at h10
    simpa using h10
   obtain⟨v,u',W,m,T,J,n,k1,k2,_⟩:=op_both hE hA h ih hg hr h3 h4 h6 h7 (wanted_none h8 _) (wanted_none h8 _) (execOp_congr o (no_select h7) fun x hx=>h2.eval (Array.all_eq_true'.1 h9 x hx))
   obtain⟨s',g1,g2,g3,g4,g5,g6⟩:=reg_both hE hA l k1 (ih.way k2) rfl rfl (fun j hj=>hl j (List.mem_cons_of_mem _ hj)) (h2.put (fun x hx=>(hd x hx).1) v)
   refine⟨s',g1,k2.trans (g2.weak k2.sub),g3,g4,g5,fun p hp=>(g6 p hp).trans (putT_ne fun e=>?_)⟩
   obtain⟨q1,q2⟩:=hd p e
   rcases hp with hp | hp
   ·exact q2 hp
   ·exact absurd q1 (Nat.not_lt.2 hp)
theorem region_both(hE:Ext P E)(hA:Alike P F E D)(prot:List Nat){id id':Nat}{ops:Array Oper}{kg kr:List Item}{s:Pt}(h:s.Ok P F E D f Post c c' gs rs Inb)(ih:Fwd P F E D f Post c gs s)(hg:s.gk=.code (.region id ops false) :: kg)(hr:s.rk=.code (.region id' ops false) :: kr)
  (hl:ops.all (opIn P D prot)=true) (h2:Two s.rt s.gt):
  ∃ s':Pt,s'.Ok P F E D f Post c c' gs rs Inb/\Way P F E D c gs s.J s s'/\s'.gk=kg/\s'.rk=kr/\Two s'.rt s'.gt/\∀ p,(p∈prot\/53<=p)->s'.gt[p]?=s.gt[p]?:=by
 obtain⟨W,m,T,h3,h4⟩:=turns 1 1 (gk:=.inRegion ops (List.range ops.size) :: kg) (rk:=.inRegion ops (List.range ops.size) :: kr) h (by rw[hg];rfl) (by rw[hr];rfl)
 obtain⟨s',g1,g2,g3,g4,g5,g6⟩:=reg_both hE hA (prot:=prot) (ops:=ops) (ops':=ops) (rest:=[]) (kg:=kg) (kr:=kr) (List.range ops.size) h3 (ih.way h4) (by rw[List.append_nil]) (by rw[List.append_nil]) (fun i hi=>by
  have hi:i<ops.size:=by simpa using hi
  exact⟨ops[i],Array.getElem?_eq_getElem hi,Array.getElem?_eq_getElem hi,Array.all_eq_true'.1 hl _ (Array.getElem_mem hi)⟩) h2
 obtain⟨W2,m2,T2,h5,h6⟩:=turns 1 1 (gk:=kg) (rk:=kr) g1 (by rw[g3];rfl) (by rw[g4];rfl)
 exact⟨_,h5,(h4.trans g2).trans (h6.weak g2.sub),rfl,rfl,g5,g6⟩
theorem apply_pure{t:Array Value}{ops:Array Oper}{i:Nat}{rest:List Nat}{k:List Item}(X:Program)(cs:List Frame)(v:Value)(w:World):stepG.apply X true (fD D t (.inRegion ops (i :: rest) :: k)) cs none (pure (.value v)) w=.go (mkG ((fD D t (.inRegion ops (i :: rest) :: k)).finish v) cs) w #[]:=by
 rw[stepG.apply]
 rfl
theorem pure_step{t:Array Value}{ops:Array Oper}{i:Nat}{rest:List Nat}{k:List Item}{o:Oper}{v:Value}(ho:ops[i]?=some o)(hw:Region.wanted o (yielded ops t)=true)(hv:execOp (fD D t []).eval o=pure (.value v))(X:Program)(main:Bool)(cs:List Frame)(w:World):
  stepG X main (mkG (fD D t (.inRegion ops (i :: rest) :: k)) cs) w=.go (mkG (fD D (putT t o.dst v) (.inRegion ops rest :: k)) cs) w #[]:=by
 rw[fD_op ho hw,hv,apply_pure,fD_finish ho]
theorem gh_pure{s:Pt}(h:s.Ok P F E D f Post c c' gs rs Inb){ops:Array Oper}{i:Nat}{rest:List Nat}{kg:List Item}{o:Oper}{v:Value}(hg:s.gk=.inRegion ops (i :: rest) :: kg)(ho:ops[i]?=some o)(hw:Region.wanted o (yielded ops s.gt)=true)(hv:execOp (fD D s.gt []).eval o=pure (.value v)):
  Pt.Ok P F E D f Post c c' gs rs Inb {s with gk:=.inRegion ops rest :: kg,gt:=putT s.gt o.dst v}/\Way P F E D c gs s.J s {s with gk:=.inRegion ops rest :: kg,gt:=putT s.gt o.dst v}:=by
 have hi:=h.inev
 rw[hg]at hi
 obtain⟨h1,h2⟩:=hi.turn fD_runs (fun cs w=>pure_step ho hw hv _ true _ w)
 refine⟨⟨h2,h.co⟩,⟨.inr (.one ?_),.refl _ _ _,fun _ h=>h,Nat.le_refl _,.refl _ _⟩⟩
 rw[hg]
 exact h1
theorem re_pure{s:Pt}(h:s.Ok P F E D f Post c c' gs rs Inb){ops:Array Oper}{i:Nat}{rest:List Nat}{kr:List Item}{o:Oper}{v:Value}(hr:s.rk=.inRegion ops (i :: rest) :: kr)(ho:ops[i]?=some o)(hw:Region.wanted o (yielded ops s.rt)=true)(hv:execOp (fD D s.rt []).eval o=pure (.value v)):
  ∃ W m T,Pt.Ok P F E D f Post c c' gs rs Inb {s with rk:=.inRegion ops rest :: kr,rt:=putT s.rt o.dst v,W:=W,m:=m,T:=T}/\Way P F E D c gs s.J s {s with rk:=.inRegion ops rest :: kr,rt:=putT s.rt o.dst v,W:=W,m:=m,T:=T}:=by
 have hc:=h.co
 rw[hr]at hc
 obtain⟨W1,m1,T1,h1,h2,h3⟩:=co_turn hc (fun cs w=>pure_step ho hw hv _ true _ w)
 exact⟨W1,m1,T1,⟨h.inev,h2⟩,⟨.inl ⟨rfl,rfl,rfl⟩,h1,fun _ h=>h,Nat.le_refl _,h3⟩⟩
theorem both_pure{s:Pt}(h:s.Ok P F E D f Post c c' gs rs Inb){ops ops':Array Oper}{i i':Nat}{rest rest':List Nat}{kg kr:List Item}{o o':Oper}{v v':Value}(hg:s.gk=.inRegion ops (i :: rest) :: kg)(ho:ops[i]?=some o)(hw:Region.wanted o (yielded ops s.gt)=true)(hv:execOp (fD D s.gt []).eval o=pure (.value v))
  (hr:s.rk=.inRegion ops' (i' :: rest') :: kr) (ho':ops'[i']?=some o') (hw':Region.wanted o' (yielded ops' s.rt)=true) (hv':execOp (fD D s.rt []).eval o'=pure (.value v')):
  ∃ W m T,Pt.Ok P F E D f Post c c' gs rs Inb {s with gk:=.inRegion ops rest :: kg,gt:=putT s.gt o.dst v,rk:=.inRegion ops' rest' :: kr,rt:=putT s.rt o'.dst v',W:=W,m:=m,T:=T}/\Way P F E D c gs s.J s {s with gk:=.inRegion ops rest :: kg,gt:=putT s.gt o.dst v,rk:=.inRegion ops' rest' :: kr,rt:=putT s.rt o'.dst v',W:=W,m:=m,T:=T}:=by
 obtain⟨h1,h2⟩:=gh_pure h hg ho hw hv
 obtain⟨W,m,T,h3,h4⟩:=re_pure h1 hr ho' hw' hv'
 exact⟨W,m,T,h3,h2.trans h4⟩
theorem Co.lay{R:Program}{J:Nat->Prop}{n:Nat}{rf:Frame}{rfs:List Frame}{u W:World}{m:Machine}{T:Trace}(hC:Co R Inb J n rf rfs u W m T){k:Nat}(hu:u.heap[k]?=some Jk)(hJ:¬J k):Co R Inb (fun x=>J x\/x=k) n rf rfs u W m T/\W.heap[k]?=some Jk:=by
 have hw:W.heap[k]?=some Jk:=(hC.sim.same k hJ).trans hu
 refine⟨⟨hC.ex,⟨hC.sim.os,hC.sim.size,fun x hx=>hC.sim.same x fun h=>hx (.inl h),fun x hx=>?_⟩,fun i s x h1 h2=>.inl (hC.seats i s x h1 h2),hC.zero,hC.high⟩,hw⟩
 rcases hx with hx | rfl
 ·exact hC.sim.junk x hx
 ·exact .inl ⟨Jk,Jk,hu,hw,.inr ⟨rfl,_,_,_,rfl⟩⟩
theorem mk_inv{X:Program}{t:TypeId}{w w1:World}{v:Value}(h:(Instr.makeChan t (.int .i64 0)).run X w=.ok v w1):v=.chan (some w.heap.size)/\w1={w with heap:=w.heap.push Jk}:=by
 have h0:=h
 unfold Instr.makeChan at h0
 have h:((do
  let d <-underlying t
  match d with
  | .chan _ elem=>
    if (0:Int)<0\/(0:Int)>IntKind.i64.max\/(<-typeInfo elem).bytes*(0:Int)>2 ^ 48 - 112 then
     runtimePanic (.plain "makechan: size out of range")
    pure (.chan (some (<-newObj (.chan (Int.toNat 0) #[] false 0 0 false))))
  | _=>stuck "MakeChan: channel type expected"):Sem Value).run X w=.ok v w1:=h0
 clear h0
 rw[Sem.run_bind]at h
 obtain⟨d,w2,e1,h1⟩:=andThen_ok h
 have hw2:w2=w:=by
  have e1:(match X.underlying t with | some d=>(pure d:Sem TypeDesc) | none=>stuck "no such type").run X w=.ok d w2:=e1
  split at e1
  ·cases e1;rfl
  ·cases e1
 rw[hw2]at h1
 clear h e1 hw2
 split at h1
 ·rename_i dir elem
  rw[Sem.run_bind]at h1
  obtain⟨x,w3,e2,h2⟩:=andThen_ok h1
  have hw3:w3=w:=by
   have e2:(match X.info? elem with | some d=>(pure d:Sem TypeInfo) | none=>stuck "no such type").run X w=.ok x w3:=e2
   split at e2
   ·cases e2;rfl
   ·cases e2
  rw[hw3]at h2
  rw[if_neg (by rintro (h | h | h) <;> first | (exact absurd h (by decide)) | (rw[Int.mul_zero]at h;exact absurd h (by decide)))]at h2
  cases h2
  exact⟨rfl,rfl⟩
 ·cases h1
theorem op_mk(hE:Ext P E)(hA:Alike P F E D){s:Pt}(h:s.Ok P F E D f Post c c' gs rs Inb)(ih:Fwd P F E D f Post c gs s){ops ops':Array Oper}{i:Nat}{rest:List Nat}{kg kr:List Item}(hg:s.gk=.inRegion ops (i :: rest) :: kg)(hr:s.rk=.inRegion ops' (i :: rest) :: kr){o:Oper}(ho:ops[i]?=some o)(ho':ops'[i]?=some o){t:TypeId}
  (hop:o.op=.makeChan t (.const (.int .i64 0))) (hgd:o.guard.isNone=true):
  ∃ u' W m T,Pt.Ok P F E D f Post c c' gs rs Inb ⟨.inRegion ops rest :: kg,.inRegion ops' rest :: kr,putT s.gt o.dst (.chan (some s.u.heap.size)),putT s.rt o.dst (.chan (some s.u.heap.size)),u',W,m,T,fun x=>s.J x\/x=s.u.heap.size,s.n⟩/\Way P F E D c gs s.J s ⟨.inRegion ops rest :: kg,.inRegion ops' rest :: kr,putT s.gt o.dst (.chan (some s.u.heap.size)),putT s.rt o.dst (.chan (some s.u.heap.size)),u',W,m,T,fun x=>s.J x\/x=s.u.heap.size,s.n⟩/\¬s.J s.u.heap.size/\W.heap[s.u.heap.size]?=some Jk:=by
 have hk:okOp P o.op=true:=by rw[hop];rfl
 have hs:simpleOp D o.op=true:=by rw[hop];rfl
 have hx:∀ (t':Array Value),execOp (fD D t' []).eval o=(do pure (.value (<-Instr.makeChan t (.int .i64 0)))):=fun t'=>by unfold execOp;rw[hop];rfl
 obtain⟨v,u',W,m,T,J,n,k1,k2,⟨rfl,rfl,τ,nx,hrun,hnx⟩ |⟨τ,g,args,w1,hrun⟩⟩:=op_both hE hA h ih hg hr ho ho' hk hs (wanted_none hgd _) (wanted_none hgd _) (by rw[hx,hx])
 ·rw[hx,Sem.run_bind]at hrun
  obtain⟨a,w2,e1,e2⟩:=andThen_ok hrun
  obtain⟨rfl,rfl⟩:=mk_inv e1
  cases e2
  obtain rfl:Value.chan (some s.u.heap.size)=v:=by
   rcases hnx with e |⟨e,_⟩
   ·exact Next.value.inj e
   ·cases e
  have hJ:¬s.J s.u.heap.size:=fun hj=>by
   have:=h.co.sim.lt hj
   omega
  obtain⟨l1,l2⟩:=k1.co.lay (k:=s.u.heap.size) (by simp) hJ
  exact⟨_,W,m,T,⟨k1.inev,l1⟩,⟨k2.ltr,k2.rch,fun k hk=>.inl hk,k2.le,k2.kp⟩,hJ,l2⟩
 ·rw[hx,Sem.run_bind]at hrun
  obtain⟨a,w2,e1,e2⟩:=andThen_ok hrun
  cases e2
end
def fK(K:FuncId)(ds:List Deferred)(t:Array Value)(k:List Item):Frame:={fn:=K,tmps:=t,todo:=k,defers:=ds,mode:=.run,kind:=.deferred}
def stpF(fr:Frame)(frs:List Frame):Stp:=fun X cs w=>stepG X false (mkG fr (frs ++ cs)) w
def MmD(Inb:Nat->Option Seat)(j:Nat):Nat->Prop:=fun i=>Mm Inb i\/i=j
structure CoD(R:Program)(Inb:Nat->Option Seat)(J:Nat->Prop)(n j:Nat)(rf:Frame)(rfs:List Frame)(u W:World)(m:Machine)(T:Trace):Prop where
 ex:∃ gs sl q B,m=crowd gs W sl/\gs.size=n/\gs[j]?=some (mkG rf rfs)/\Ring R (fun _=>True) (fun _=>False) B (MmD Inb j) Inb j T gs W q
 sim:Sim J u W
 seats:∀ i s c,Inb i=some s->s.has c->J c
 high:∀ i,n<=i->Inb i=none
 pos:j≠0
section
variable {P X R:Program} {F:Array Func} {E:List String} {D K f:FuncId} {Post:Value->World->Prop} {c c':Frame} {gs rs:List Frame} {Inb:Nat->Option Seat} {j:Nat} {ds:List Deferred} {bs:List Frame}
theorem cod_one{J:Nat->Prop}{n:Nat}{rf:Frame}{rfs:List Frame}{u W:World}{m:Machine}{T:Trace}(hC:CoD R Inb J n j rf rfs u W m T){Φ:Frame->List Frame->World->Prop}
  (h:∀ d:Nat,∃ rf1 rfs1 u1 W1 es,Φ rf1 rfs1 u1/\stepG R false (mkG rf rfs) (W.at d)=.go (mkG rf1 rfs1) W1 es/\Sim J u1 W1/\Kp J W W1/\∀ e∈es,EvOk W1.heap.size e):
  ∃ rf1 rfs1 u1 W1 m1 T1,Φ rf1 rfs1 u1/\Rch R m T m1 T1/\CoD R Inb J n j rf1 rfs1 u1 W1 m1 T1/\Kp J W W1:=by
 obtain⟨gs,sl,q,B,rfl,hsz,hg,hR⟩:=hC.ex
 have hj0:(j == 0)=false:=by simpa using hC.pos
 obtain⟨N,m',T',hrun,gs',d,a',w',es,sl',q',B',rfl,hsz',hg',hgo,hB,C'⟩:=hold_one (sl:=sl) (fun _ _ x=>x) hg rfl hR fun d=>by
  obtain⟨rf1,rfs1,u1,W1,es,_,e,_,hk,h6⟩:=h d
  exact⟨_,W1,es,max B W1.heap.size,by rw[hj0];exact e,Nat.le_max_left _ _,fun _=>trivial,fun i s c hs hh=>hk.block c (hC.seats i s c hs hh),fun e he=>evHd_of (h6 e he) (Nat.le_max_right _ _)⟩
 obtain⟨rf1,rfs1,u1,W1,es1,hΦ,e,hS1,hk,_⟩:=h d
 rw[hj0,e]at hgo
 injection hgo with e1 e2 e3
 subst e1 e2 e3
 exact⟨rf1,rfs1,u1,W1,_,T',hΦ,⟨N,hrun⟩,⟨⟨gs',sl',q',B',rfl,hsz'.trans hsz,hg',C'⟩,hS1,hC.seats,hC.high,hC.pos⟩,hk⟩
theorem cod_step{J:Nat->Prop}{n:Nat}{rf:Frame}{rfs:List Frame}{u W:World}{m:Machine}{T:Trace}(hC:CoD R Inb J n j rf rfs u W m T){Φ:Frame->List Frame->World->Prop}
  (h:∀ τ,Agree u τ->∃ rf1 rfs1 u1,Φ rf1 rfs1 u1/\CStep (stpF rf rfs) R (onT u τ u.drawn) rf1 rfs1 u1):∃ rf1 rfs1 u1 W1 m1 T1,Φ rf1 rfs1 u1/\Rch R m T m1 T1/\CoD R Inb J n j rf1 rfs1 u1 W1 m1 T1/\Kp J W W1:=by
 refine cod_one hC fun d=>?_
 obtain⟨tt,htt⟩:∃ tt:Nat->Question->Nat,tt=fun p=>if p<u.drawn then u.tape p else W.tape (d+(p - u.drawn)):=⟨_,rfl⟩
 have hA:Agree u tt:=fun p hp=>by rw[htt];simp only[if_pos hp]
 obtain⟨rf1,rfs1,u1,hΦ,k,_,hstep⟩:=h tt hA
 obtain⟨W1,es,e,h1,h2,h3,h4,_,h6⟩:=hstep [] J W W.tape d (hC.sim.of_heap rfl rfl rfl rfl) fun i hi q=>by
  show W.tape (d+i) q=tt (u.drawn+i) q
  rw[htt]
  simp only
  rw[if_neg (by omega),Nat.add_sub_cancel_left]
 unfold stpF at e
 simp only[List.append_nil]at e
 exact⟨rf1,rfs1,u1,onT W1 W.tape (d+k),es,hΦ,e,h1.of_heap rfl rfl rfl rfl,⟨h2,h3,h4⟩,h6⟩
structure Pt.OkD(P:Program)(F:Array Func)(E:List String)(D K f:FuncId)(Post:Value->World->Prop)(c:Frame)(gs:List Frame)(Inb:Nat->Option Seat)(j:Nat)(ds:List Deferred)(bs:List Frame)(s:Pt):Prop where
 inev:Inev P E f Post (fD D s.gt s.gk) (c :: gs) s.u
 co:CoD (ofF P F) Inb s.J s.n j (fK K ds s.rt s.rk) bs s.u s.W s.m s.T
theorem cod_turn{J:Nat->Prop}{n:Nat}{rf rf1:Frame}{rfs rfs1:List Frame}{u W:World}{m:Machine}{T:Trace}(hC:CoD R Inb J n j rf rfs u W m T)(ht:∀ cs w,stpF rf rfs R cs w=.go (mkG rf1 (rfs1 ++ cs)) w #[]):
  ∃ W1 m1 T1,Rch R m T m1 T1/\CoD R Inb J n j rf1 rfs1 u W1 m1 T1/\Kp J W W1:=by
 obtain⟨_,_,u1,W1,m1,T1,⟨rfl,rfl,h1,h2⟩,hr,hC1,hk⟩:=cod_step hC (Φ:=fun a az u1=>a=rf1/\az=rfs1/\u1.heap=u.heap/\u1.os=u.os) fun τ _=>⟨rf1,rfs1,onT u τ u.drawn,⟨rfl,rfl,rfl,rfl⟩,CStep.turn ht⟩
 exact⟨W1,m1,T1,hr,⟨hC1.ex,hC1.sim.of_heap h1.symm rfl h2.symm rfl,hC1.seats,hC1.high,hC1.pos⟩,hk⟩
theorem ctl1_stepK{t:Array Value}{k k':List Item}(h:ctl1 k=some k')(X:Program)(main:Bool)(cs:List Frame)(w:World):stepG X main (mkG (fK K ds t k) cs) w=.go (mkG (fK K ds t k') cs) w #[]:=by
 unfold ctl1 at h
 split at h <;> first | (cases h;rfl) | cases h | skip
 rename_i id k
 rw[exec_main rfl,stepG.exec]
 simp only[fK,h]
 rfl
theorem fK_finish{t:Array Value}{ops:Array Oper}{i:Nat}{rest:List Nat}{k:List Item}{o:Oper}(ho:ops[i]?=some o)(v:Value):(fK K ds t (.inRegion ops (i :: rest) :: k)).finish v=fK K ds (putT t o.dst v) (.inRegion ops rest :: k):=by
 unfold Frame.finish fK putT
 dsimp only
 rw[ho]
 cases h:o.dst with
 | none=>simp only[Option.bind_some,h]
 | some d=>simp only[Option.bind_some,h]
theorem fK_op{t:Array Value}{ops:Array Oper}{i:Nat}{rest:List Nat}{k:List Item}{o:Oper}(ho:ops[i]?=some o)(hw:Region.wanted o (yielded ops t)=true)(X:Program)(main:Bool)(cs:List Frame)(w:World):
  stepG X main (mkG (fK K ds t (.inRegion ops (i :: rest) :: k)) cs) w=stepG.apply X true (fK K ds t (.inRegion ops (i :: rest) :: k)) cs none (execOp (fK K ds t []).eval o) w:=by
 rw[exec_main rfl,stepG.exec]
 have hop:(fK K ds t (.inRegion ops (i :: rest) :: k)).oper?=some o:=ho
 simp only[fK,ho,Option.map_some,Option.getD_some,hw,if_true]at hop ⊢
 rw[stepG.oper]
 simp only[hop]
 rfl
theorem fK_unw{t:Array Value}{ops:Array Oper}{i:Nat}{rest:List Nat}{k:List Item}{o:Oper}(ho:ops[i]?=some o)(hw:Region.wanted o (yielded ops t)=false)(X:Program)(main:Bool)(cs:List Frame)(w:World):
  stepG X main (mkG (fK K ds t (.inRegion ops (i :: rest) :: k)) cs) w=.go (mkG (fK K ds (putT t o.dst undef) (.inRegion ops rest :: k)) cs) w #[]:=by
 rw[exec_main rfl,stepG.exec,<-fK_finish ho]
 simp only[fK,ho,Option.map_some,Option.getD_some,hw]
 rfl
def Known(X:Program)(s:Sem Next)(v:Value):Prop:=∀ w,s.runT X w #[]=(.ok (.value v) w,#[])
theorem known_pure{v:Value}:Known X (pure (.value v)) v:=fun _=>rfl
theorem apply_known{fr:Frame}{s:Sem Next}{v:Value}(he:(fr.kind == .early)=false)(hs:Known X s v)(cs:List Frame)(w:World):stepG.apply X true fr cs none s w=.go (mkG (fr.finish v) cs) w #[]:=by
 rw[stepG.apply]
 simp only[if_true,hs w,he]
 rfl
theorem known_stepK{t:Array Value}{ops:Array Oper}{i:Nat}{rest:List Nat}{k:List Item}{o:Oper}{v:Value}(ho:ops[i]?=some o)(hw:Region.wanted o (yielded ops t)=true)(hv:Known X (execOp (fK K ds t []).eval o) v)(main:Bool)(cs:List Frame)(w:World):
  stepG X main (mkG (fK K ds t (.inRegion ops (i :: rest) :: k)) cs) w=.go (mkG (fK K ds (putT t o.dst v) (.inRegion ops rest :: k)) cs) w #[]:=by
 rw[fK_op ho hw,apply_known rfl hv,fK_finish ho]
theorem known_stepD{t:Array Value}{ops:Array Oper}{i:Nat}{rest:List Nat}{k:List Item}{o:Oper}{v:Value}(ho:ops[i]?=some o)(hw:Region.wanted o (yielded ops t)=true)(hv:Known X (execOp (fD D t []).eval o) v)(main:Bool)(cs:List Frame)(w:World):
  stepG X main (mkG (fD D t (.inRegion ops (i :: rest) :: k)) cs) w=.go (mkG (fD D (putT t o.dst v) (.inRegion ops rest :: k)) cs) w #[]:=by
 rw[fD_op ho hw,apply_known rfl hv,fD_finish ho]
theorem ghD_turns(a:Nat){gk:List Item}{s:Pt}(h:s.OkD P F E D K f Post c gs Inb j ds bs)(ha:ctlN a s.gk=some gk):Pt.OkD P F E D K f Post c gs Inb j ds bs {s with gk:=gk}/\Way P F E D c gs s.J s {s with gk:=gk}:=by
 induction a generalizing s with
 | zero=>
   obtain rfl:=Option.some.inj ha
   exact⟨h,.refl _⟩
 | succ a ih=>
   unfold ctlN at ha
   cases hk:ctl1 s.gk with
   | none=>rw [hk]at ha;cases ha
   | some k1=>
     rw[hk]at ha
     obtain⟨h1,h2⟩:=h.inev.turn fD_runs (fun cs w=>ctl1_step hk _ true _ w)
     obtain⟨h3,h4⟩:=ih (s:={s with gk:=k1}) ⟨h2,h.co⟩ ha
     exact⟨h3,Way.trans (s1:={s with gk:=k1}) ⟨.inr (.one h1),.refl _ _ _,fun _ h=>h,Nat.le_refl _,.refl _ _⟩ h4⟩
theorem reD_turns(b:Nat){rk:List Item}{s:Pt}(h:s.OkD P F E D K f Post c gs Inb j ds bs)(hb:ctlN b s.rk=some rk):∃ W m T,Pt.OkD P F E D K f Post c gs Inb j ds bs {s with rk:=rk,W:=W,m:=m,T:=T}/\Way P F E D c gs s.J s {s with rk:=rk,W:=W,m:=m,T:=T}:=by
 induction b generalizing s with
 | zero=>
   obtain rfl:=Option.some.inj hb
   exact⟨s.W,s.m,s.T,h,.refl _⟩
 | succ b ih=>
   unfold ctlN at hb
   cases hk:ctl1 s.rk with
   | none=>rw [hk]at hb;cases hb
   | some k1=>
     rw[hk]at hb
     obtain⟨W1,m1,T1,h1,h2,h3⟩:=cod_turn h.co (fun cs w=>ctl1_stepK hk _ false _ w)
     obtain⟨W2,m2,T2,h4,h5⟩:=ih (s:={s with rk:=k1,W:=W1,m:=m1,T:=T1}) ⟨h.inev,h2⟩ hb
     exact⟨W2,m2,T2,h4,Way.trans (s1:={s with rk:=k1,W:=W1,m:=m1,T:=T1}) ⟨.inl ⟨rfl,rfl,rfl⟩,h1,fun _ h=>h,Nat.le_refl _,h3⟩ h5⟩
theorem ghD_known{s:Pt}(h:s.OkD P F E D K f Post c gs Inb j ds bs){ops:Array Oper}{i:Nat}{rest:List Nat}{kg:List Item}{o:Oper}{v:Value}(hg:s.gk=.inRegion ops (i :: rest) :: kg)(ho:ops[i]?=some o)(hw:Region.wanted o (yielded ops s.gt)=true)(hv:Known (ofF P (maskF P E)) (execOp (fD D s.gt []).eval o) v):
  Pt.OkD P F E D K f Post c gs Inb j ds bs {s with gk:=.inRegion ops rest :: kg,gt:=putT s.gt o.dst v}/\Way P F E D c gs s.J s {s with gk:=.inRegion ops rest :: kg,gt:=putT s.gt o.dst v}:=by
 have hi:=h.inev
 rw[hg]at hi
 obtain⟨h1,h2⟩:=hi.turn fD_runs (fun cs w=>known_stepD ho hw hv true _ w)
 refine⟨⟨h2,h.co⟩,⟨.inr (.one ?_),.refl _ _ _,fun _ h=>h,Nat.le_refl _,.refl _ _⟩⟩
 rw[hg]
 exact h1
theorem reD_known{s:Pt}(h:s.OkD P F E D K f Post c gs Inb j ds bs){ops:Array Oper}{i:Nat}{rest:List Nat}{kr:List Item}{o:Oper}{v:Value}(hr:s.rk=.inRegion ops (i :: rest) :: kr)(ho:ops[i]?=some o)(hw:Region.wanted o (yielded ops s.rt)=true)(hv:Known (ofF P F) (execOp (fK K ds s.rt []).eval o) v):
  ∃ W m T,Pt.OkD P F E D K f Post c gs Inb j ds bs {s with rk:=.inRegion ops rest :: kr,rt:=putT s.rt o.dst v,W:=W,m:=m,T:=T}/\Way P F E D c gs s.J s {s with rk:=.inRegion ops rest :: kr,rt:=putT s.rt o.dst v,W:=W,m:=m,T:=T}:=by
 have hc:=h.co
 rw[hr]at hc
 obtain⟨W1,m1,T1,h1,h2,h3⟩:=cod_turn hc (fun cs w=>known_stepK ho hw hv false _ w)
 exact⟨W1,m1,T1,⟨h.inev,h2⟩,⟨.inl ⟨rfl,rfl,rfl⟩,h1,fun _ h=>h,Nat.le_refl _,h3⟩⟩
def leafOp:Op->Bool
 | .move _ | .assign _ | .extract .. | .alloc _ | .store .. | .fieldAddr .. | .load .. | .binOp .. | .pick .. | .indexAddr ..=>true
 | .call ⟨.builtin .len,_,_⟩=>true
 | _=>false
theorem leaf_simple{o:Op}(h:leafOp o=true)(D:FuncId):simpleOp D o=true:=by
 unfold leafOp at h
 split at h <;> first | rfl | cases h
theorem opD_both(hE:Ext P E)(hA:Alike P F E D){s:Pt}(h:s.OkD P F E D K f Post c gs Inb j ds bs)
  {ops ops':Array Oper} {i:Nat} {rest:List Nat} {kg kr:List Item} (hg:s.gk=.inRegion ops (i :: rest) :: kg) (hr:s.rk=.inRegion ops' (i :: rest) :: kr) {o o':Oper} (ho:ops[i]?=some o) (ho':ops'[i]?=some o') (hk:okOp P o.op=true) (hs:leafOp o.op=true)
  (hw:Region.wanted o (yielded ops s.gt)=true) (hw':Region.wanted o' (yielded ops' s.rt)=true) (he:execOp (fK K ds s.rt []).eval o'=execOp (fD D s.gt []).eval o):
  ∃ v u' W m T,Pt.OkD P F E D K f Post c gs Inb j ds bs ⟨.inRegion ops rest :: kg,.inRegion ops' rest :: kr,putT s.gt o.dst v,putT s.rt o'.dst v,u',W,m,T,s.J,s.n⟩/\Way P F E D c gs s.J s ⟨.inRegion ops rest :: kg,.inRegion ops' rest :: kr,putT s.gt o.dst v,putT s.rt o'.dst v,u',W,m,T,s.J,s.n⟩/\YldV (ofF P F) (execOp (fD D s.gt []).eval o) s.u v u':=by
 have hi:=h.inev
 have hc:=h.co
 rw[hg]at hi
 rw[hr]at hc
 have stG:∀ X cs w,stp (fD D s.gt (.inRegion ops (i :: rest) :: kg)) (c :: gs) X cs w=stepG.apply X true (fD D s.gt (.inRegion ops (i :: rest) :: kg)) ((c :: gs) ++ cs) none (execOp (fD D s.gt []).eval o) w:=fun X cs w=>fD_op ho hw X true _ w
 have stR:∀ X cs w,stpF (fK K ds s.rt (.inRegion ops' (i :: rest) :: kr)) bs X cs w=stepG.apply X true (fK K ds s.rt (.inRegion ops' (i :: rest) :: kr)) (bs ++ cs) none (execOp (fD D s.gt []).eval o) w:=fun X cs w=>by rw[<-he];exact fK_op ho' hw' X false _ w
 have tG:=tn_execOp (F:=P.funcs) hE hA.self (fD D s.gt []).eval (fun _=>rfl) o hk
 have tR:=tn_execOp (F:=F) hE hA (fD D s.gt []).eval (fun _=>rfl) o hk
 obtain⟨a,az,u1,W1,m1,T1,⟨v,rfl,rfl,hN,hI1,hy⟩,hrc,hC1,hkp⟩:=cod_step hc (Φ:=fun a az u1=>
   ∃ v,a=fK K ds (putT s.rt o'.dst v) (.inRegion ops' rest :: kr)/\az=bs/\Nxt P E (fD D s.gt (.inRegion ops (i :: rest) :: kg)) (c :: gs) s.u (fD D (putT s.gt o.dst v) (.inRegion ops rest :: kg)) (c :: gs) u1/\Inev P E f Post (fD D (putT s.gt o.dst v) (.inRegion ops rest :: kg)) (c :: gs) u1/\YldV (ofF P F) (execOp (fD D s.gt []).eval o) s.u v u1) fun τ hτ=>by
  obtain⟨b,bs',w1,hN,hI1,hK,hS⟩:=hi.next fD_runs hτ
  have h1:=TameS.sound (X:=ofF P (maskF P E)) (own:=True) (.inl ⟨rfl,trivial⟩) (tG fun _=>False) (onT s.u τ s.u.drawn) hi.cl.clean fun k h=>h.elim
  have h3:=TameS.sound (X:=ofF P F) (own:=False) (.inr ⟨rfl,id⟩) (tR fun _=>False) (onT s.u τ s.u.drawn) hi.cl.clean fun k h=>h.elim
  cases hrn:(execOp (fD D s.gt []).eval o).run (ofF P (maskF P E)) (onT s.u τ s.u.drawn)with
  | ok nx u1=>
    rw[hrn]at h1 h3
    obtain⟨⟨N',hq,_⟩,hK1,m1⟩:=h1
    obtain⟨_,_,m3⟩:=h3
    have m1:=m1.resolve_left fun h=>h.1 trivial
    have m3:BadN P E nx\/Mir (ofF P F) (execOp (fD D s.gt []).eval o) (onT s.u τ s.u.drawn) u1 (.ok nx u1):=m3.imp And.right id
    cases nx with
    | value v=>
      have c1:=apply_value rfl (stG _) m1
      have hy:=mir_run (m3.resolve_left id) hK1
      have c3:CStep (stpF (fK K ds s.rt (.inRegion ops' (i :: rest) :: kr)) bs) (ofF P F) (onT s.u τ s.u.drawn) ((fK K ds s.rt (.inRegion ops' (i :: rest) :: kr)).finish v) bs u1:=CStep.ofMir (m3.resolve_left id) fun cs w w1 es e=>⟨_,by rw[stR,stepG.apply];simp only[if_true,e,show ((fK K ds s.rt (.inRegion ops' (i :: rest) :: kr)).kind == .early)=false from rfl];rfl,fun e he=>mem_seen (by simpa using he)⟩
      rw[fD_finish ho]at c1
      rw[fK_finish ho']at c3
      obtain⟨rfl,rfl,rfl⟩:=cstep_det hS hK c1 hK1
      exact⟨_,_,_,⟨v,rfl,rfl,hN,hI1,τ,.value v,hy,.inl rfl⟩,c3⟩
    | skip=>
      have c1:=apply_skip rfl (stG _) m1
      have hy:=mir_run (m3.resolve_left id) hK1
      have c3:CStep (stpF (fK K ds s.rt (.inRegion ops' (i :: rest) :: kr)) bs) (ofF P F) (onT s.u τ s.u.drawn) ((fK K ds s.rt (.inRegion ops' (i :: rest) :: kr)).finish undef) bs u1:=CStep.ofMir (m3.resolve_left id) fun cs w w1 es e=>⟨_,by rw[stR,stepG.apply];simp only[if_true,e,show ((fK K ds s.rt (.inRegion ops' (i :: rest) :: kr)).kind == .early)=false from rfl];rfl,fun e he=>mem_seen (by simpa using he)⟩
      rw[fD_finish ho]at c1
      rw[fK_finish ho']at c3
      obtain⟨rfl,rfl,rfl⟩:=cstep_det hS hK c1 hK1
      exact⟨_,_,_,⟨undef,rfl,rfl,hN,hI1,τ,.skip,hy,.inr ⟨rfl,rfl⟩⟩,c3⟩
    | enter g args=>exact absurd rfl (simple_res (D:=g) hE (leaf_simple hs g) (k:=[]) (t:=s.gt) hrn)
    | _=>exact (simple_res (D:=D) hE (leaf_simple hs D) (k:=[]) (t:=s.gt) hrn).elim
  | halt e u1=>
    exfalso
    rw[hrn]at h1
    by_cases hp:∃ v,e=.panic v
    ·obtain⟨v,rfl⟩:=hp
     obtain⟨hK1,m1⟩:=h1
     have c1:=apply_panic rfl (stG _) m1
     obtain⟨rfl,rfl,rfl⟩:=cstep_det hS hK c1 hK1
     exact no_panic hI1 _ rfl
    ·have hEn:Ends e:=by cases e <;> first | exact h1 | exact absurd ⟨_,rfl⟩ hp
     exact not_lost (top:=c :: gs) (gb:=[]) (apply_lost rfl hEn (stG _) hrn) (by rwa [List.append_nil]) hK
 refine⟨v,u1,W1,m1,T1,⟨hI1,hC1⟩,⟨.inr (.one ?_),hrc,fun _ h=>h,Nat.le_refl _,hkp⟩,hy⟩
 rw[hg]
 exact hN
end
section
variable {P X R:Program} {F:Array Func} {E:List String} {D K f:FuncId} {Post:Value->World->Prop} {c c':Frame} {gs rs:List Frame} {Inb:Nat->Option Seat} {j:Nat} {ds:List Deferred} {bs:List Frame}
theorem draw_both{s:Pt}(h:s.OkD P F E D K f Post c gs Inb j ds bs){id id':Nat}{ops ops':Array Oper}{kg kr:List Item}(hg:s.gk=.code (.region id ops true) :: kg)(hr:s.rk=.code (.region id' ops' true) :: kr)(hs:∀ t,Region.schedule (P.follows .mixedOrders) ops t=Region.schedule (P.follows .mixedOrders) ops' t):
  ∃ t u' W m T,Pt.OkD P F E D K f Post c gs Inb j ds bs {s with gk:=.inRegion ops (Region.schedule (P.follows .mixedOrders) ops' t) :: kg,rk:=.inRegion ops' (Region.schedule (P.follows .mixedOrders) ops' t) :: kr,u:=u',W:=W,m:=m,T:=T}/\Way P F E D c gs s.J s {s with gk:=.inRegion ops (Region.schedule (P.follows .mixedOrders) ops' t) :: kg,rk:=.inRegion ops' (Region.schedule (P.follows .mixedOrders) ops' t) :: kr,u:=u',W:=W,m:=m,T:=T}/\u'.heap=s.u.heap:=by
 have hi:=h.inev
 have hc:=h.co
 rw[hg]at hi
 rw[hr]at hc
 obtain⟨a,az,u1,W1,m1,T1,⟨t,rfl,rfl,hN,hI,hh⟩,hrc,hC1,hkp⟩:=cod_one hc (Φ:=fun a az u1=>∃ t,a=fK K ds s.rt (.inRegion ops' (Region.schedule (P.follows .mixedOrders) ops' t) :: kr)/\az=bs/\Nxt P E (fD D s.gt (.code (.region id ops true) :: kg)) (c :: gs) s.u (fD D s.gt (.inRegion ops (Region.schedule (P.follows .mixedOrders) ops' t) :: kg)) (c :: gs) u1/\Inev P E f Post (fD D s.gt (.inRegion ops (Region.schedule (P.follows .mixedOrders) ops' t) :: kg)) (c :: gs) u1/\u1.heap=s.u.heap) fun d=>by
  obtain⟨τ,hτ⟩:∃ τ:Nat->Question->Nat,τ=fun p q=>if p<s.u.drawn then s.u.tape p q else s.W.tape d (.order K id'):=⟨_,rfl⟩
  have hA:Agree s.u τ:=fun p hp=>by rw[hτ];funext q;simp only[if_pos hp]
  have ht:∀ q,τ s.u.drawn q=s.W.tape d (.order K id'):=fun q=>by rw[hτ];simp only[Nat.lt_irrefl,if_false]
  obtain⟨b,bs',w1,hN,hI1,hK,hS⟩:=hi.next fD_runs hA
  have key:∀ (X:Program) (cs:List Frame) (w:World),X.follows .mixedOrders=P.follows .mixedOrders->stp (fD D s.gt (.code (.region id ops true) :: kg)) (c :: gs) X cs w=.go (mkG (fD D s.gt (.inRegion ops (Region.schedule (P.follows .mixedOrders) ops ((Question.order D id).cut (w.tape w.drawn (.order D id)))) :: kg)) ((c :: gs) ++ cs)) {w with drawn:=w.drawn+1}:=fun X cs w hX=>by
   unfold stp
   rw[exec_main rfl,stepG.exec,<-hX]
   rfl
  have c1:CStep (stp (fD D s.gt (.code (.region id ops true) :: kg)) (c :: gs)) (ofF P (maskF P E)) (onT s.u τ s.u.drawn) (fD D s.gt (.inRegion ops (Region.schedule (P.follows .mixedOrders) ops' (s.W.tape d (.order K id'))) :: kg)) (c :: gs) {onT s.u τ s.u.drawn with drawn:=s.u.drawn+1}:=by
   refine⟨1,rfl,fun cs J W τ' d' hS hτ'=>⟨W,#[],?_,hS.of_heap rfl rfl rfl rfl,rfl,rfl,fun _ _=>rfl,Nat.le_refl _,fun e he=>by simp at he⟩⟩
   have h0:=hτ' 0 (by omega) (.order D id)
   rw[key (ofF P (maskF P E)) cs _ rfl,show (onT W τ' d').tape (onT W τ' d').drawn (.order D id)=s.W.tape d (.order K id')from h0.trans (ht _)]
   show _=GStep.go (mkG (fD D s.gt (.inRegion ops (Region.schedule (P.follows .mixedOrders) ops' (s.W.tape d (.order K id'))) :: kg)) ((c :: gs) ++ cs)) (onT W τ' (d'+1)) #[]
   rw[<-hs]
   rfl
  obtain⟨rfl,rfl,rfl⟩:=cstep_det hS hK c1 ⟨rfl,rfl,rfl,Nat.le_refl _,hi.cl.clean⟩
  refine⟨_,_,_,{s.W.at d with drawn:=d+1},#[],⟨_,rfl,rfl,hN,hI1,rfl⟩,?_,h.co.sim.of_heap rfl rfl rfl rfl,⟨rfl,rfl,fun _ _=>rfl⟩,fun e he=>by simp at he⟩
  rw[exec_main rfl,stepG.exec]
  rfl
 refine⟨t,u1,W1,m1,T1,⟨hI,hC1⟩,⟨.inr (.one ?_),hrc,fun _ h=>h,Nat.le_refl _,hkp⟩,hh⟩
 rw[hg]
 exact hN
theorem unwD_both{s:Pt}(h:s.OkD P F E D K f Post c gs Inb j ds bs){ops ops':Array Oper}{i:Nat}{rest:List Nat}{kg kr:List Item}(hg:s.gk=.inRegion ops (i :: rest) :: kg)(hr:s.rk=.inRegion ops' (i :: rest) :: kr){o o':Oper}(ho:ops[i]?=some o)(ho':ops'[i]?=some o')
  (hw:Region.wanted o (yielded ops s.gt)=false) (hw':Region.wanted o' (yielded ops' s.rt)=false):
  ∃ W m T,Pt.OkD P F E D K f Post c gs Inb j ds bs {s with gk:=.inRegion ops rest :: kg,gt:=putT s.gt o.dst undef,rk:=.inRegion ops' rest :: kr,rt:=putT s.rt o'.dst undef,W:=W,m:=m,T:=T}/\Way P F E D c gs s.J s {s with gk:=.inRegion ops rest :: kg,gt:=putT s.gt o.dst undef,rk:=.inRegion ops' rest :: kr,rt:=putT s.rt o'.dst undef,W:=W,m:=m,T:=T}:=by
 have hi:=h.inev
 have hc:=h.co
 rw[hg]at hi
 rw[hr]at hc
 obtain⟨h1,h2⟩:=hi.turn fD_runs (fun cs w=>fD_unw ho hw _ true _ w)
 obtain⟨W1,m1,T1,h3,h4,h5⟩:=cod_turn hc (fun cs w=>fK_unw ho' hw' _ false _ w)
 refine⟨W1,m1,T1,⟨h2,h4⟩,⟨.inr (.one ?_),h3,fun _ h=>h,Nat.le_refl _,h5⟩⟩
 rw[hg]
 exact h1
structure SeqH(md:Region.Mode)(ops:Array Oper)(last:Nat)(H:Nat->Array Bool->Prop):Prop where
 zero:∀ listed,¬H 0 listed
 any:∀ n listed,H (n+1) listed->Region.ready md ops listed≠[]
 fin:∀ n listed,H (n+1) listed->last∈Region.ready md ops listed->Region.ready md ops (listed.setIfInBounds last true)=[]
 next:∀ n listed i,H (n+1) listed->i∈Region.ready md ops listed->i≠last->H n (listed.setIfInBounds i true)
theorem go_cons{md:Region.Mode}{ops:Array Oper}{fuel t:Nat}{listed:Array Bool}(h:Region.ready md ops listed≠[]):∃ i t',i∈Region.ready md ops listed/\Region.linearise.go md ops (fuel+1) t listed []=i :: Region.linearise.go md ops fuel t' (listed.setIfInBounds i true) []:=by
 have hlt:t % (Region.ready md ops listed).length<(Region.ready md ops listed).length:=Nat.mod_lt _ (List.length_pos_iff.2 h)
 refine⟨(Region.ready md ops listed)[t % (Region.ready md ops listed).length],t / (Region.ready md ops listed).length,List.getElem_mem hlt,?_⟩
 have e:(Region.ready md ops listed)[t % (Region.ready md ops listed).length]?=some (Region.ready md ops listed)[t % (Region.ready md ops listed).length]:=List.getElem?_eq_getElem hlt
 simp only[Region.linearise.go]
 simp only[Region.ready]at e ⊢
 rw[e]
 dsimp only
 rw[linearise_go_acc]
 rfl
theorem go_nil{md:Region.Mode}{ops:Array Oper}{fuel t:Nat}{listed:Array Bool}(h:Region.ready md ops listed=[]):Region.linearise.go md ops fuel t listed []=[]:=by
 cases fuel with
 | zero=>rfl
 | succ fuel=>
   simp only[Region.linearise.go]
   simp only[Region.ready]at h
   rw[h]
   rfl
theorem lock{md:Region.Mode}{ops ops':Array Oper}{last:Nat}{kg kr:List Item}{I:Array Bool->Pt->Prop}{H:Nat->Array Bool->Prop}(hH:SeqH md ops' last H)
  (hstep:∀ (listed:Array Bool) (s:Pt) (i:Nat) (rest:List Nat),s.OkD P F E D K f Post c gs Inb j ds bs->s.gk=.inRegion ops (i :: rest) :: kg->s.rk=.inRegion ops' (i :: rest) :: kr->i∈Region.ready md ops' listed->i≠last->I listed s->
    ∃ s':Pt,s'.OkD P F E D K f Post c gs Inb j ds bs/\Way P F E D c gs s.J s s'/\s'.gk=.inRegion ops rest :: kg/\s'.rk=.inRegion ops' rest :: kr/\I (listed.setIfInBounds i true) s'):
  ∀ (fuel t:Nat) (listed:Array Bool) (s:Pt),H fuel listed->s.OkD P F E D K f Post c gs Inb j ds bs->s.gk=.inRegion ops (Region.linearise.go md ops' fuel t listed []) :: kg->s.rk=.inRegion ops' (Region.linearise.go md ops' fuel t listed []) :: kr->I listed s->
    ∃ (s':Pt) (listed':Array Bool),s'.OkD P F E D K f Post c gs Inb j ds bs/\Way P F E D c gs s.J s s'/\s'.gk=.inRegion ops [last] :: kg/\s'.rk=.inRegion ops' [last] :: kr/\I listed' s'/\last∈Region.ready md ops' listed'
 | 0,_,_,_,h,_,_,_,_=>absurd h (hH.zero _)
 | fuel+1,t,listed,s,hq,h,hg,hr,hI=>by
   obtain⟨i,t',hi,e⟩:=go_cons (fuel:=fuel) (t:=t) (hH.any _ _ hq)
   rw[e]at hg hr
   by_cases hl:i=last
   ·subst hl
    rw[go_nil (hH.fin _ _ hq hi)]at hg hr
    exact⟨s,listed,h,.refl _,hg,hr,hI,hi⟩
   ·obtain⟨s1,k1,k2,k3,k4,k5⟩:=hstep listed s i _ h hg hr hi hl hI
    obtain⟨s2,listed',g1,g2,g3,g4,g5,g6⟩:=lock hH hstep fuel t' _ s1 (hH.next _ _ _ hq hi hl) k1 k3 k4 k5
    exact⟨s2,listed',g1,k2.trans (g2.weak k2.sub),g3,g4,g5,g6⟩
def shO:Operand->Operand
 | .tmp t=>.tmp (t+53)
 | x=>x
def shOp:Op->Op
 | .move x=>.move (shO x)
 | .assign x=>.assign (shO x)
 | .extract x i=>.extract (shO x) i
 | .alloc t=>.alloc t
 | .store t a v=>.store t (shO a) (shO v)
 | .fieldAddr t x i=>.fieldAddr t (shO x) i
 | .load t a=>.load t (shO a)
 | .binOp b t x y ty=>.binOp b t (shO x) (shO y) ty
 | .pick x a b=>.pick (shO x) (shO a) (shO b)
 | .indexAddr t x i=>.indexAddr t (shO x) (shO i)
 | .call ⟨.builtin b,az,ts⟩=>.call ⟨.builtin b,az.map shO,ts⟩
 | .send _ v=>.move (shO v)
 | o=>o
def shOper(o:Oper):Oper:={o with dst:=o.dst.map (· +53),op:=shOp o.op}
theorem exec_sh{ρ ρ':Operand->Value}(o:Oper)(ho:leafOp o.op=true)(h:∀ x∈o.op.operands,ρ x=ρ' (shO x)):execOp ρ o=execOp ρ' (shOper o):=by
 obtain⟨dst,op,type,pos,after,guard⟩:=o
 cases op <;> first | (exfalso;simp[leafOp]at ho;done) | skip
 case call cl=>
  obtain⟨callee,az,ts⟩:=cl
  cases callee with
  | builtin b=>
    have h1:az.map ρ=(az.map shO).map ρ':=by
     rw[Array.map_map]
     exact Array.map_congr_left fun x hx=>h x (by simp[Op.operands,Call.operands,hx])
    have h2:∀ g:Operand->Bool,(∀ x,g (shO x)=g x)->(az.map shO).map g=az.map g:=fun g hg=>by
     rw[Array.map_map]
     exact Array.map_congr_left fun x _=>hg x
    simp only[execOp,shOper,shOp,resolve,h1]
    rw[h2 _ fun x=>by cases x <;> rfl]
  | _=>simp [leafOp]at ho
 case binOp b t x y ty=>
  simp only[Op.operands]at h
  have e:∀ a c,eqGuard b t (shO x) (shO y) a c=eqGuard b t x y a c:=fun a c=>by cases x <;> cases y <;> rfl
  simp only[execOp,shOper,shOp,h x (by simp),h y (by simp),e]
 all_goals simp only[Op.operands]at h <;> simp[execOp,shOper,shOp,h]
def inS(k:Nat):Bool:=k == 0 || k == 8 || (decide (16<=k) && decide (k<31))
structure Ex(gt dt:Array Value):Prop where
 gsz:84<=gt.size
 dsz:dt.size=31
 eq:∀ k,inS k=true->gt[k+53]?=dt[k]?
theorem inS_lt{k:Nat}(h:inS k=true):k<31:=by
 simp only[inS,Bool.or_eq_true,beq_iff_eq,Bool.and_eq_true,decide_eq_true_eq]at h
 omega
theorem Ex.eval{gt dt:Array Value}(h:Ex gt dt){x:Operand}(hx:∀ k,x=.tmp k->inS k=true):(fK K ds dt []).eval x=(fD D gt []).eval (shO x):=by
 cases x with
 | tmp k=>
   have:=h.eq k (hx k rfl)
   show dt.getD k undef=gt.getD (k+53) undef
   rw[Array.getD_eq_getD_getElem?,Array.getD_eq_getD_getElem?,this]
 | _=>rfl
theorem Ex.put{gt dt:Array Value}(h:Ex gt dt){d:Option Nat}(hd:∀ k,d=some k->inS k=true)(v:Value):Ex (putT gt (d.map (· +53)) v) (putT dt d v):=by
 refine⟨by rw[putT_size];exact h.gsz,by rw[putT_size];exact h.dsz,fun k hk=>?_⟩
 have hk':=inS_lt hk
 by_cases e:d=some k
 ·subst e
  rw[Option.map_some,putT_self (by have:=h.gsz;omega),putT_self (by rw[h.dsz];omega)]
 ·rw[putT_ne e,putT_ne (fun e2=>e ?_)]
  ·exact h.eq k hk
  ·cases d with
   | none=>cases e2
   | some x=>
     simp only[Option.map_some,Option.some.injEq]at e2
     rw[show x=k by omega]
def opEx(P:Program)(o:Oper):Bool:=okOp P o.op && okOp P (shOp o.op) && leafOp o.op && leafOp (shOp o.op) && o.op.operands.all (fun x=>match x with | .tmp k=>inS k | _=>true) && (match o.dst with | some d=>inS d | none=>true)
theorem yielded_sh{gt dt:Array Value}(h:Ex gt dt){ops:Array Oper}(hd:∀ (i:Nat) (o:Oper) (d:Nat),ops[i]?=some o->o.dst=some d->inS d=true)(i:Nat):yielded (ops.map shOper) gt i=yielded ops dt i:=by
 unfold yielded
 rw[Array.getElem?_map]
 cases ho:ops[i]? with
 | none=>rfl
 | some o=>
   simp only[Option.map_some,Option.bind_some,shOper]
   cases e:o.dst with
   | none=>rfl
   | some d=>
     simp only[Option.map_some,Option.bind_some]
     rw[h.eq d (hd i o d ho e)]
theorem wanted_sh{gt dt:Array Value}(h:Ex gt dt){ops:Array Oper}(hd:∀ (i:Nat) (o:Oper) (d:Nat),ops[i]?=some o->o.dst=some d->inS d=true)(o:Oper):Region.wanted (shOper o) (yielded (ops.map shOper) gt)=Region.wanted o (yielded ops dt):=by
 unfold Region.wanted
 rw[show (shOper o).guard=o.guard from rfl]
 split
 ·rfl
 ·rw[yielded_sh h hd]
theorem ex_both(hE:Ext P E)(hA:Alike P F E D){s:Pt}(h:s.OkD P F E D K f Post c gs Inb j ds bs){ops:Array Oper}(hd:∀ (i:Nat) (o:Oper) (d:Nat),ops[i]?=some o->o.dst=some d->inS d=true){i:Nat}{rest:List Nat}{kg kr:List Item}(hg:s.gk=.inRegion (ops.map shOper) (i :: rest) :: kg)(hr:s.rk=.inRegion ops (i :: rest) :: kr){o:Oper}(ho:ops[i]?=some o)(hok:opEx P o=true)(h2:Ex s.gt s.rt):
  ∃ v u' W m T,Pt.OkD P F E D K f Post c gs Inb j ds bs ⟨.inRegion (ops.map shOper) rest :: kg,.inRegion ops rest :: kr,putT s.gt (o.dst.map (· +53)) v,putT s.rt o.dst v,u',W,m,T,s.J,s.n⟩/\Way P F E D c gs s.J s ⟨.inRegion (ops.map shOper) rest :: kg,.inRegion ops rest :: kr,putT s.gt (o.dst.map (· +53)) v,putT s.rt o.dst v,u',W,m,T,s.J,s.n⟩/\Ex (putT s.gt (o.dst.map (· +53)) v) (putT s.rt o.dst v)/\(Region.wanted o (yielded ops s.rt)=true->YldV (ofF P F) (execOp (fD D s.gt []).eval (shOper o)) s.u v u')/\(Region.wanted o (yielded ops s.rt)=false->u'=s.u):=by
 simp only[opEx,Bool.and_eq_true]at hok
 obtain⟨⟨⟨⟨⟨h3,h4⟩,h5⟩,h6⟩,h7⟩,h8⟩:=hok
 have hdst:∀ k,o.dst=some k->inS k=true:=fun k e=>by rw[e]at h8;exact h8
 have hg':(ops.map shOper)[i]?=some (shOper o):=by rw[Array.getElem?_map,ho];rfl
 have hw2:=wanted_sh h2 hd o
 cases hw:Region.wanted o (yielded ops s.rt)with
 | true=>
   rw[hw]at hw2
   obtain⟨v,u',W,m,T,k1,k2,k3⟩:=opD_both hE hA h hg hr hg' ho h4 h6 hw2 hw (exec_sh o h5 fun x hx=>h2.eval fun k e=>by
    have:=Array.all_eq_true'.1 h7 x hx
    rw[e]at this
    exact this)
   exact⟨v,u',W,m,T,k1,k2,h2.put hdst v,fun _=>k3,fun e=>(by cases e)⟩
 | false=>
   rw[hw]at hw2
   obtain⟨W,m,T,k1,k2⟩:=unwD_both h hg hr hg' ho hw2 hw
   exact⟨undef,s.u,W,m,T,k1,k2,h2.put hdst undef,fun e=>(by cases e),fun _=>rfl⟩
end
end
section
open Go Go.Conc
open Go.ConcN (upd upd_same upd_ne)
section
variable {P R:Program} {K:World->Prop} {Still:Loc->Prop} {B:Nat} {Mem Mem':Nat->Prop} {Inb:Nat->Option Seat} {h:Nat} {T:Trace} {gs:Array Goroutine} {w:World} {q:Nat->Nat}
theorem ring_remem(C:Ring P K Still B Mem Inb h T gs w q)(h1:∀ g,Mem' g->Mem g)(h2:∀ i s,Inb i=some s->Mem' i)(h3:∀ i,Mem' i->Inb i≠none\/i=h):Ring P K Still B Mem' Inb h T gs w q:=
 ⟨C.idle,C.chans,C.wf,C.live,C.inj,C.above,fun i s e=>⟨h2 i s e,(C.mem i s e).2⟩,h3,C.lo,PastG.fewer C.past h1,C.keep⟩
theorem ring_unseat(C:Ring P K Still B Mem Inb h T gs w q):Ring P K Still B Mem (upd Inb h none) h T gs w q:=by
 have hup:∀ x,x≠h->upd Inb h none x=Inb x:=fun x hx=>upd_ne Inb _ hx
 have hsub:∀ i s,upd Inb h none i=some s->Inb i=some s:=fun i s e=>by
  by_cases ei:i=h
  ·subst ei;rw[upd_same]at e;cases e
  ·rw[hup i ei]at e;exact e
 refine⟨fun x y hx hy=>by rw[hup x hx];exact C.idle x y hx hy,fun i s c hd e hc=>C.chans i s c hd (hsub i s e) hc,fun i s e=>C.wf i s (hsub i s e),C.live,fun i i' s s' c e e' hc hc'=>C.inj i i' s s' c (hsub _ _ e) (hsub _ _ e') hc hc',C.above,fun i s e=>C.mem i s (hsub i s e),fun i hM=>?_,fun i s hi e=>⟨hi,by rw[e];rfl⟩,?_,C.keep⟩
 ·by_cases ei:i=h
  ·exact .inr ei
  ·rw[hup i ei];exact C.nomem i hM
 ·exact PastG.loosen C.past fun g ⟨hg,hs⟩=>⟨hg,by rw[hup g hg];exact hs⟩
end
theorem Sim.setChan{J:Nat->Prop}{u W:World}(h:Sim J u W){k:Nat}(hk:J k)(hw:∃ cl a b,W.heap[k]?=some (.chan 0 #[] cl a b false))(cl:Bool)(a b:Nat):Sim J u (W.setChan k 0 #[] cl a b false):=by
 have hlt:k<W.heap.size:=by
  obtain⟨_,_,_,e⟩:=hw
  exact (Array.getElem?_eq_some_iff.1 e).1
 refine⟨h.os,by simp[World.setChan,h.size],fun x hx=>?_,fun x hx=>?_⟩
 ·simp only[World.setChan]
  rw[Array.getElem?_setIfInBounds_ne (fun e=>hx (by rw[<-e];exact hk))]
  exact h.same x hx
 ·by_cases e:k=x
  ·subst e
   refine .inl ?_
   obtain⟨cl',a',b',hw⟩:=hw
   rcases h.junk k hk with ⟨z,o,h1,h2,h3⟩ |⟨t,v,h1,h2⟩
   ·rw[hw]at h2
    obtain rfl:=Option.some.inj h2
    refine⟨z,_,h1,by simp only[World.setChan];exact Array.getElem?_setIfInBounds_self_of_lt hlt,?_⟩
    rcases h3 with ⟨rfl,_⟩ |⟨rfl,_⟩
    ·exact .inl ⟨rfl,trivial⟩
    ·exact .inr ⟨rfl,_,_,_,rfl⟩
   ·rw[hw]at h2;cases h2
  ·simp only[World.setChan]
   rw[Array.getElem?_setIfInBounds_ne e]
   exact h.junk x hx
theorem setChan_ne(W:World){k x:Nat}(h:x≠k)(cap:Nat)(buf:Array Value)(cl:Bool)(a b:Nat)(tm:Bool):(W.setChan k cap buf cl a b tm).heap[x]?=W.heap[x]?:=by
 simp only[World.setChan]
 exact Array.getElem?_setIfInBounds_ne (fun e=>h e.symm)
theorem setChan_self{W:World}{k:Nat}{o:Obj}(h:W.heap[k]?=some o)(cap:Nat)(buf:Array Value)(cl:Bool)(a b:Nat)(tm:Bool):(W.setChan k cap buf cl a b tm).heap[k]?=some (.chan cap buf cl a b tm):=by
 simp only[World.setChan]
 exact Array.getElem?_setIfInBounds_self_of_lt (Array.getElem?_eq_some_iff.1 h).1
def Opn(W:World)(k:Nat):Prop:=∃ a,W.heap[k]?=some (.chan 0 #[] false a a false)
section
variable {R:Program} {Inb:Nat->Option Seat} {J:Nat->Prop} {n:Nat} {rf:Frame} {rfs:List Frame} {u W:World} {m:Machine} {T:Trace}
theorem mm_upd{s:Seat}{h:Nat}(i:Nat)(hi:Mm (upd Inb h (some s)) i):Mm Inb i\/i=h:=by
 by_cases e:i=h
 ·exact .inr e
 ·rcases hi with hi | hi
  ·rw[upd_ne _ _ e]at hi;exact .inl (.inl hi)
  ·exact .inl (.inr hi)
theorem co_hire(h:Co R Inb J n rf rfs u W m T){rf1:Frame}{rfs1:List Frame}{child:Goroutine}(hgo:∀ w,stepG R true (mkG rf rfs) w=.spawn (mkG rf1 rfs1) child w #[])(sn:Seat)(hwf:sn.Wf)(hfresh:∀ x s y,Inb x=some s->s.has y->¬sn.has y)(hcn:∀ y,sn.has y->J y/\Opn W y)(hn:n≠0){nc:Nat}
  (hchild:∀ B,Sits R false (fun _=>True) (fun _=>False) B sn nc child):
  ∃ W1 m1 T1,Rch R m T m1 T1/\Co R (upd Inb n (some sn)) J (n+1) rf1 rfs1 u W1 m1 T1/\Kp J W W1/\W1.heap=W.heap:=by
 obtain⟨gs,sl,q,B,rfl,hsz,hg,hR⟩:=h.ex
 obtain⟨N,gs',d,sl',T',q',hrun,hsz',hg',hR'⟩:=hire (sl:=sl) (B:=max B W.heap.size) (fun _ _ x=>x) (.inr rfl) hg rfl (fun d=>hgo (W.at d)) (fun e he=>by simp at he) (ring_raise (Nat.le_max_left _ _) hR) sn hwf hfresh
  (fun c hc=>by obtain⟨a,ha⟩:=(hcn c hc).2;exact⟨0,a,ha⟩) (fun c hc=>by
    obtain⟨a,ha⟩:=(hcn c hc).2
    have:=(Array.getElem?_eq_some_iff.1 ha).1
    omega) (hchild _)
 rw[hsz]at hR'
 refine⟨W.at d,_,T',⟨N,hrun⟩,⟨⟨gs',sl',q',_,rfl,by omega,hg',ring_remem hR' (fun g hg=>?_) (fun i s e=>.inl (by rw[e];simp)) fun i hi=>hi⟩,h.sim.of_heap rfl rfl rfl rfl,fun i s c e hc=>?_,?_,fun i hi=>?_⟩,⟨rfl,rfl,fun _ _=>rfl⟩,rfl⟩
 ·exact mm_upd g hg
 ·by_cases ei:i=n
  ·subst ei;rw[upd_same]at e;obtain rfl:=Option.some.inj e;exact (hcn c hc).1
  ·rw[upd_ne _ _ ei]at e;exact h.seats i s c e hc
 ·rw[upd_ne _ _ (Ne.symm hn)];exact h.zero
 ·rw[upd_ne _ _ (by omega)];exact h.high i (by omega)
theorem co_send(h:Co R Inb J n rf rfs u W m T){k1:Nat}{v z':Value}(hsend:∀ w,stepG R true (mkG rf rfs) w=.comm (mkG rf rfs) #[scase k1 v z'] true .send w #[]){j:Nat}{sj:Seat}(hj:Inb j=some sj)(hj0:j≠0)(hjn:j<n){kk:Nat}{z:Value}(hk:sj.cases[kk]?=some (rcase k1 z))(hin:Opn W k1)
  (s0:Seat) (hwf:s0.Wf) (hfresh:∀ x s y,x≠0->Inb x=some s->s.has y->¬s0.has y) (hc0:∀ y,s0.has y->J y/\Opn W y) {nh:Nat} (hsit:∀ B,Sits R true (fun _=>True) (fun _=>False) B s0 nh (Conc.served (mkG rf rfs) undef)) {df:Frame} {bs:List Frame} (hhome:∀ g,sj.home g->g=mkG df bs):
  ∃ W1 m1 T1,Rch R m T m1 T1/\CoD R (upd Inb 0 (some s0)) J n j (df.finish (commResult sj.cases sj.shape kk v true)) bs u W1 m1 T1/\(W1.os=W.os/\W1.output=W.output/\∀ x,x≠k1->W1.heap[x]?=W.heap[x]?)/\Opn W1 k1:=by
 obtain⟨gs,sl,q,B,rfl,hsz,hg,hR⟩:=h.ex
 have hJ1:J k1:=h.seats j sj k1 hj ⟨kk,z,hk⟩
 have hR1:=Ring.reseat (ring_raise (Nat.le_max_left B W.heap.size) hR) (.inr rfl) s0 hwf (fun i s' c hi e hc=>hfresh i s' c hi e hc) (fun c hc=>by obtain⟨a,ha⟩:=(hc0 c hc).2;exact⟨0,a,ha⟩) (fun c hc=>by
   obtain⟨a,ha⟩:=(hc0 c hc).2
   have:=(Array.getElem?_eq_some_iff.1 ha).1
   omega)
 obtain⟨N,m',T',hrun,gs',g₂,d,k,cap,sl',q',rfl,hsz',hgj,hh,hck,hR'⟩:=give (sl:=sl) (h:=0) (fun _ _ x=>x) (fun _ _ _ _ _ _ _ _ _ _ _ _ x=>x) hj0 (by omega) (by rw[upd_ne _ _ hj0];exact hj) hk (.inr rfl) hg rfl (fun d=>hsend (W.at d)) (fun e he=>by simp at he) hR1 (Inb':=upd Inb 0 (some s0)) (fun _ _=>rfl) (.inl rfl) (nh:=nh) (fun T' _=>by
  rw[upd_same]
  exact hsit _)
 obtain rfl:=hhome g₂ hh
 obtain⟨a,ha⟩:=hin
 rw[ha]at hck
 obtain⟨rfl,-,-,rfl,-,-⟩:=Obj.chan.inj (Option.some.inj hck)
 refine⟨_,_,T',⟨N,hrun⟩,⟨⟨gs',sl',q',_,rfl,by omega,hgj,ring_remem hR' (fun g hg=>?_) (fun i s e=>.inl (.inl (by rw[e];simp))) fun i hi=>?_⟩,?_,fun i s c e hc=>?_,fun i hi=>?_,hj0⟩,⟨rfl,rfl,fun x hx=>setChan_ne _ hx _ _ _ _ _ _⟩,⟨_,setChan_self (W:=W.at d) ha _ _ _ _ _ _⟩⟩
 ·rcases hg with (hg | rfl) | rfl
  ·by_cases e:g=0
   ·exact⟨.inr e,.inl hg⟩
   ·exact⟨.inl (by rwa [upd_ne _ _ e]at hg),.inl hg⟩
  ·exact⟨.inr rfl,.inl (by rw[upd_same];simp)⟩
  ·exact⟨.inl (by rw[hj];simp),.inr rfl⟩
 ·rcases hi with (hi | rfl) | rfl
  ·exact .inl hi
  ·exact .inl (by rw[upd_same];simp)
  ·exact .inr rfl
 ·exact Sim.setChan (W:=W.at d) (h.sim.of_heap rfl rfl rfl rfl) hJ1 ⟨_,_,_,ha⟩ _ _ _
 ·by_cases ei:i=0
  ·subst ei;rw[upd_same]at e;obtain rfl:=Option.some.inj e;exact (hc0 c hc).1
  ·rw[upd_ne _ _ ei]at e;exact h.seats i s c e hc
 ·rw[upd_ne _ _ (by omega)];exact h.high i hi
theorem cod_send{j:Nat}(h:CoD R Inb J n j rf rfs u W m T)(hn:0<n)(hjn:j<n){k4:Nat}{v z':Value}(hsend:∀ w,stepG R false (mkG rf rfs) w=.comm (mkG rf rfs) #[scase k4 v z'] true .send w #[]){s0:Seat}(h0:Inb 0=some s0){kk:Nat}{z:Value}(hk:s0.cases[kk]?=some (rcase k4 z))(hin:Opn W k4)
  (sd:Seat) (hwf:sd.Wf) (hfresh:∀ x s y,x≠j->Inb x=some s->s.has y->¬sd.has y) (hcd:∀ y,sd.has y->J y/\Opn W y) {nh:Nat} (hsit:∀ B,Sits R false (fun _=>True) (fun _=>False) B sd nh (Conc.served (mkG rf rfs) undef)) {af:Frame} {afs:List Frame} (hhome:∀ g,s0.home g->g=mkG af afs):
  ∃ W1 m1 T1,Rch R m T m1 T1/\Co R (upd (upd Inb j (some sd)) 0 none) J n (af.finish (commResult s0.cases s0.shape kk v true)) afs u W1 m1 T1/\(W1.os=W.os/\W1.output=W.output/\∀ x,x≠k4->W1.heap[x]?=W.heap[x]?)/\Opn W1 k4:=by
 obtain⟨gs,sl,q,B,rfl,hsz,hg,hR⟩:=h.ex
 have hj0:=h.pos
 have hJ1:J k4:=h.seats 0 s0 k4 h0 ⟨kk,z,hk⟩
 have hjb:(j == 0)=false:=by simpa using hj0
 have hMj:MmD Inb j j:=.inr rfl
 have hR1:=Ring.reseat (ring_raise (Nat.le_max_left B W.heap.size) hR) hMj sd hwf (fun i s' c hi e hc=>hfresh i s' c hi e hc) (fun c hc=>by obtain⟨a,ha⟩:=(hcd c hc).2;exact⟨0,a,ha⟩) (fun c hc=>by
   obtain⟨a,ha⟩:=(hcd c hc).2
   have:=(Array.getElem?_eq_some_iff.1 ha).1
   omega)
 obtain⟨N,m',T',hrun,gs',g₂,d,k,cap,sl',q',rfl,hsz',hgj,hh,hck,hR'⟩:=give (sl:=sl) (h:=j) (j:=0) (fun _ _ x=>x) (fun _ _ _ _ _ _ _ _ _ _ _ _ x=>x) (Ne.symm hj0) (by omega) (by rw[upd_ne _ _ (Ne.symm hj0)];exact h0) hk hMj hg rfl (fun d=>by rw[hjb];exact hsend (W.at d)) (fun e he=>by simp at he) hR1 (Inb':=upd Inb j (some sd)) (fun _ _=>rfl) (.inl rfl) (nh:=nh) (fun T' _=>by
  rw[upd_same]
  show Sits R (j == 0) _ _ _ _ _ _
  rw[hjb]
  exact hsit _)
 obtain rfl:=hhome g₂ hh
 obtain⟨a,ha⟩:=hin
 rw[ha]at hck
 obtain⟨rfl,-,-,rfl,-,-⟩:=Obj.chan.inj (Option.some.inj hck)
 refine⟨_,_,T',⟨N,hrun⟩,⟨⟨gs',sl',q',_,rfl,by omega,hgj,ring_remem (ring_unseat hR') (fun g hg=>?_) (fun i s e=>.inl (by rw[e];simp)) fun i hi=>hi⟩,?_,fun i s c e hc=>?_,upd_same _ _ _,fun i hi=>?_⟩,⟨rfl,rfl,fun x hx=>setChan_ne _ hx _ _ _ _ _ _⟩,⟨_,setChan_self (W:=W.at d) ha _ _ _ _ _ _⟩⟩
 ·rcases hg with hg | rfl
  ·by_cases e:g=0
   ·subst e;rw[upd_same]at hg;exact absurd rfl hg
   ·rw[upd_ne _ _ e]at hg
    by_cases e2:g=j
    ·subst e2;exact⟨hMj,.inl hg⟩
    ·rw[upd_ne _ _ e2]at hg
     exact⟨.inl (.inl hg),.inl (by rw[upd_ne _ _ e2];exact hg)⟩
  ·exact⟨.inl (.inr rfl),.inr rfl⟩
 ·exact Sim.setChan (W:=W.at d) (h.sim.of_heap rfl rfl rfl rfl) hJ1 ⟨_,_,_,ha⟩ _ _ _
 ·by_cases ei:i=0
  ·subst ei;rw[upd_same]at e;cases e
  ·rw[upd_ne _ _ ei]at e
   by_cases e2:i=j
   ·subst e2;rw[upd_same]at e;obtain rfl:=Option.some.inj e;exact (hcd c hc).1
   ·rw[upd_ne _ _ e2]at e;exact h.seats i s c e hc
 ·rw[upd_ne _ _ (by omega),upd_ne _ _ (by omega)];exact h.high i hi
theorem co_close(h:Co R Inb J n rf rfs u W m T){k2:Nat}{rf1:Frame}{rfs1:List Frame}(hclose:∀ (w:World) (cap k:Nat),w.heap[k2]?=some (.chan cap #[] false k k false)->stepG R true (mkG rf rfs) w=.go (mkG rf1 rfs1) (w.setChan k2 cap #[] true k k false) (closeEvents k2))(hwake:mayWake R (mkG rf rfs)=true)
  {j:Nat} {sj:Seat} (hj:Inb j=some sj) (hj0:j≠0) (hjn:j<n) {kk:Nat} {z:Value} (hk:sj.cases[kk]?=some (rcase k2 z)) (hin:Opn W k2)
  (s0:Seat) (hwf:s0.Wf) (hfresh:∀ x s y,x≠0->Inb x=some s->s.has y->¬s0.has y) (hc0:∀ y,s0.has y->J y/\Opn W y) {nh:Nat} (hsit:∀ B,Sits R true (fun _=>True) (fun _=>False) B s0 nh (mkG rf1 rfs1)) {df:Frame} {bs:List Frame} (hhome:∀ g,sj.home g->g=mkG df bs):
  ∃ W1 m1 T1,Rch R m T m1 T1/\CoD R (upd (upd Inb 0 (some s0)) j none) J n j (df.finish (commResult sj.cases sj.shape kk z false)) bs u W1 m1 T1/\(W1.os=W.os/\W1.output=W.output/\∀ x,x≠k2->W1.heap[x]?=W.heap[x]?):=by
 obtain⟨gs,sl,q,B,rfl,hsz,hg,hR⟩:=h.ex
 have hJ1:J k2:=h.seats j sj k2 hj ⟨kk,z,hk⟩
 have hR1:=Ring.reseat (ring_raise (Nat.le_max_left B W.heap.size) hR) (.inr rfl) s0 hwf (fun i s' c hi e hc=>hfresh i s' c hi e hc) (fun c hc=>by obtain⟨a,ha⟩:=(hc0 c hc).2;exact⟨0,a,ha⟩) (fun c hc=>by
   obtain⟨a,ha⟩:=(hc0 c hc).2
   have:=(Array.getElem?_eq_some_iff.1 ha).1
   omega)
 obtain⟨a,ha⟩:=hin
 obtain⟨N,gs',g₂,d,sl',T',q',hrun,hsz',hgj,hh,hR'⟩:=give_close (sl:=sl) (h:=0) (fun _ _ x=>x) (fun _ _ _ _ _ _ _ _ _ _ _ _ x=>x) hj0 (by omega) (by rw[upd_ne _ _ hj0];exact hj) hk (.inr rfl) hg rfl hwake rfl ha (fun d=>hclose (W.at d) _ _ ha) hR1 (Inb':=upd (upd Inb 0 (some s0)) j none) (fun x _ hx=>upd_ne _ _ hx) (.inl (upd_ne _ _ (Ne.symm hj0))) (upd_same _ _ _) (nh:=nh) (fun T' _=>by
  rw[upd_ne _ _ (Ne.symm hj0),upd_same]
  exact hsit _)
 obtain rfl:=hhome g₂ hh
 refine⟨_,_,T',⟨N,hrun⟩,⟨⟨gs',sl',q',_,rfl,by omega,hgj,ring_remem hR' (fun g hg=>?_) (fun i s e=>.inl (.inl (by rw[e];simp))) fun i hi=>?_⟩,?_,fun i s c e hc=>?_,fun i hi=>?_,hj0⟩,⟨rfl,rfl,fun x hx=>setChan_ne _ hx _ _ _ _ _ _⟩⟩
 ·rcases hg with (hg | rfl) | rfl
  ·by_cases e:g=0
   ·exact⟨.inr e,.inl hg⟩
   ·by_cases e2:g=j
    ·subst e2;exact⟨.inl (by rw[hj];simp),.inr rfl⟩
    ·rw[upd_ne _ _ e2,upd_ne _ _ e]at hg
     exact⟨.inl hg,.inl (by rw[upd_ne _ _ e2,upd_ne _ _ e];exact hg)⟩
  ·exact⟨.inr rfl,.inl (by rw[upd_ne _ _ (Ne.symm hj0),upd_same];simp)⟩
  ·exact⟨.inl (by rw[hj];simp),.inr rfl⟩
 ·rcases hi with (hi | rfl) | rfl
  ·exact .inl hi
  ·exact .inl (by rw[upd_ne _ _ (Ne.symm hj0),upd_same];simp)
  ·exact .inr rfl
 ·exact Sim.setChan (W:=W.at d) (h.sim.of_heap rfl rfl rfl rfl) hJ1 ⟨_,_,_,ha⟩ _ _ _
 ·by_cases e2:i=j
  ·subst e2;rw[upd_same]at e;cases e
  ·rw[upd_ne _ _ e2]at e
   by_cases ei:i=0
   ·subst ei;rw[upd_same]at e;obtain rfl:=Option.some.inj e;exact (hc0 c hc).1
   ·rw[upd_ne _ _ ei]at e;exact h.seats i s c e hc
 ·by_cases e2:i=j
  ·subst e2;exact upd_same _ _ _
  ·rw[upd_ne _ _ e2,upd_ne _ _ (by omega)];exact h.high i hi
theorem cod_close{j:Nat}(h:CoD R Inb J n j rf rfs u W m T)(hn:0<n){k3:Nat}{rf1:Frame}{rfs1:List Frame}(hclose:∀ (w:World) (cap k:Nat),w.heap[k3]?=some (.chan cap #[] false k k false)->stepG R false (mkG rf rfs) w=.go (mkG rf1 rfs1) (w.setChan k3 cap #[] true k k false) (closeEvents k3))(hwake:mayWake R (mkG rf rfs)=true)
  {s0:Seat} (h0:Inb 0=some s0) (hjI:Inb j=none) {kk:Nat} {z:Value} (hk:s0.cases[kk]?=some (rcase k3 z)) (hin:Opn W k3) {nh:Nat} (hquit:QuitsD R nh 0 (mkG rf1 rfs1)) {af:Frame} {afs:List Frame} (hhome:∀ g,s0.home g->g=mkG af afs):
  ∃ W1 m1 T1,Rch R m T m1 T1/\Co R (upd Inb 0 none) J n (af.finish (commResult s0.cases s0.shape kk z false)) afs u W1 m1 T1/\(W1.os=W.os/\W1.output=W.output/\∀ x,x≠k3->W1.heap[x]?=W.heap[x]?):=by
 obtain⟨gs,sl,q,B,rfl,hsz,hg,hR⟩:=h.ex
 have hj0:=h.pos
 have hJ1:J k3:=h.seats 0 s0 k3 h0 ⟨kk,z,hk⟩
 have hjb:(j == 0)=false:=by simpa using hj0
 obtain⟨a,ha⟩:=hin
 obtain⟨N,gs',g₂,d,sl',T',q',hrun,hsz',hgj,hh,hR'⟩:=give_close (sl:=sl) (h:=j) (j:=0) (fun _ _ x=>x) (fun _ _ _ _ _ _ _ _ _ _ _ _ x=>x) (Ne.symm hj0) (by omega) h0 hk (.inr rfl) hg rfl hwake rfl ha (fun d=>by rw[hjb];exact hclose (W.at d) _ _ ha) (ring_raise (Nat.le_max_left B W.heap.size) hR) (Inb':=upd Inb 0 none) (fun x _ hx=>upd_ne _ _ hx) (.inl (upd_ne _ _ hj0)) (upd_same _ _ _) (nh:=nh) (fun T' hd=>by
  rw[upd_ne _ _ hj0,hjI]
  exact⟨by omega,by rw[hd];exact hquit⟩)
 obtain rfl:=hhome g₂ hh
 refine⟨_,_,T',⟨N,hrun⟩,⟨⟨gs',sl',q',_,rfl,by omega,hgj,ring_remem hR' (fun g hg=>?_) (fun i s e=>.inl (by rw[e];simp)) fun i hi=>hi⟩,?_,fun i s c e hc=>?_,upd_same _ _ _,fun i hi=>?_⟩,⟨rfl,rfl,fun x hx=>setChan_ne _ hx _ _ _ _ _ _⟩⟩
 ·rcases hg with hg | rfl
  ·by_cases e:g=0
   ·subst e;rw[upd_same]at hg;exact absurd rfl hg
   ·rw[upd_ne _ _ e]at hg
    exact⟨.inl (.inl hg),.inl (by rw[upd_ne _ _ e];exact hg)⟩
  ·exact⟨.inl (.inr rfl),.inr rfl⟩
 ·exact Sim.setChan (W:=W.at d) (h.sim.of_heap rfl rfl rfl rfl) hJ1 ⟨_,_,_,ha⟩ _ _ _
 ·by_cases ei:i=0
  ·subst ei;rw[upd_same]at e;cases e
  ·rw[upd_ne _ _ ei]at e;exact h.seats i s c e hc
 ·rw[upd_ne _ _ (by omega)];exact h.high i hi
end
abbrev dD:FuncId:=26
abbrev dK:FuncId:=47
def cHd:Code->Code | .seq a _=>a | c=>c
def cTl:Code->Code | .seq _ b=>b | c=>c
def cIn:Code->Code | .block _ b=>b | .loop b=>b | c=>c
def cOps:Code->Array Oper | .region _ ops _=>ops | _=>#[]
def cYes:Code->Code | .cond _ a _=>a | c=>c
noncomputable def bD:Code:=(Tryz.f26.body).getD .skip
noncomputable def bK:Code:=(Tryz.f47.body).getD .skip
noncomputable def kLoop:Code:=cIn (cIn (cTl bK))
noncomputable def kSel:Code:=cHd (cTl (cIn kLoop))
noncomputable def kArm:Code:=cYes (cIn (cTl (cTl (cIn kLoop))))
noncomputable def kOps4:Array Oper:=cOps (cHd kArm)
noncomputable def kOps5:Array Oper:=cOps (cTl kArm)
def ghOp(o:Oper):Oper:=
 match o.op with
 | .go _=>{o with dst:=some 53,op:=.move (.tmp 16)}
 | .send _ v=>{o with op:=.move v}
 | .recv ..=>{o with op:=.move (if o.dst == some 39 then .tmp 83 else .const (.agg #[]))}
 | .call ⟨.builtin .close,xs,_⟩=>{o with op:=.move (xs.getD 0 (.const undef))}
 | _=>o
noncomputable def ghOps4:Array Oper:=#[{dst:=some 69,op:=.move (.tmp 36),type:=0,pos:= "",after:=#[],guard:=none},shOper (kOps4.getD 1 default),shOper (kOps4.getD 2 default)]
noncomputable def gh4:Code:=.region 104 ghOps4 false
noncomputable def gh5:Code:=.region 105 (kOps5.map shOper) true
noncomputable def kT:TypeId:=match (kOps5.getD 1 default).op with | .load t _=>t | _=>0
noncomputable def gh6:Code:=.region 106 #[{dst:=some 54,op:=.binOp .eql kT (.tmp 71) (.tmp 9) kT,type:=0,pos:= "",after:=#[],guard:=none}] false
def gh7:Code:=.cond (.tmp 54) .skip (.refuse "")
def mapA(g:Oper->Oper)(a:Array Oper):Array Oper:=(a.toList.map g).toArray
noncomputable def gh:Code->Code
 | .seq (.region 10 ops d) b=>.seq (.region 10 (mapA ghOp ops) d) (.seq gh4 (.seq gh5 (.seq gh6 (.seq gh7 (gh b)))))
 | .seq a b=>.seq (gh a) (gh b)
 | .cond c a b=>.cond c (gh a) (gh b)
 | .block i b=>.block i (gh b)
 | .loop b=>.loop (gh b)
 | .region id ops d=>.region id (mapA ghOp ops) d
 | c=>c
def clr:List Nat:=[53,61,69,70,71,72,73,74,75,76,77,78,79,80,81,82,83]
def gh0:Array Oper:=(clr.map fun d=>{dst:=some d,op:=.move (.const undef),type:=0,pos:= "",after:=#[],guard:=none:Oper}).toArray
noncomputable def gD:Code:=.seq (.region 99 gh0 false) (gh bD)
noncomputable def gfn:Func:={Tryz.f26 with body:=some gD,ntmps:=84}
noncomputable def gP:Program:=ofF Tryz.prog (Tryz.prog.funcs.setIfInBounds dD gfn)
theorem ofF_funcs(P:Program)(Fs:Array Func):(ofF P Fs).funcs=Fs:=rfl
theorem gP_lt:dD<Tryz.prog.funcs.size:=(Array.getElem?_eq_some_iff.1 Tryz.func26).1
theorem gP_funcs:gP.funcs=Tryz.prog.funcs.setIfInBounds dD gfn:=by unfold gP;exact ofF_funcs _ _
theorem gP_D:gP.funcs[dD]?=some gfn:=by
 rw[gP_funcs]
 exact Array.getElem?_setIfInBounds_self_of_lt gP_lt
theorem gP_ne{g:FuncId}(h:g≠dD):gP.funcs[g]?=Tryz.prog.funcs[g]?:=by
 rw[gP_funcs]
 exact Array.getElem?_setIfInBounds_ne (fun e=>h e.symm)
def gE:List String:=["internal/reflectlite.TypeOf","internal/reflectlite.ValueOf","(internal/reflectlite.Value).Type","(internal/reflectlite.Value).IsNil","(internal/reflectlite.Value).Elem","(internal/reflectlite.Value).Set","(*internal/abi.Type).Kind","(internal/reflectlite.rtype).AssignableTo","(internal/reflectlite.rtype).Comparable","(internal/reflectlite.rtype).Elem","(internal/reflectlite.rtype).Implements"]
theorem gfn_ok:okFunc gP gE gfn=true:=by kernel_rfl
theorem alike:Alike gP Tryz.prog.funcs gE dD:=
 ⟨fun g hg=>(gP_ne hg).symm,gfn,bD,gD,Tryz.f26.ntmps,gP_D,rfl,gfn_ok,Tryz.func26⟩
end
end Go.Proofs.YticobikhndlejaaGreatDoor
