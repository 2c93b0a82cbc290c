/- Part 20 of the proof (see the last part). -/
import Derived.Test.YticobikhndlejaaGreatDoorAlS
namespace Go.Proofs.YticobikhndlejaaGreatDoor
section
open Go Go.Conc Go.RowKit
open Go.ConcN (upd upd_same upd_ne)
theorem reply_step{dt:Array Value}{ds:List Deferred}{k4:Nat}{k:List Item}{cs:List Frame}(h:dt[18]?=some (.chan (some k4)))(w:World):
  stepG Tryz.prog false (mkG (fK dK ds dt (.inRegion kOps5 [14] :: k)) cs) w=.comm (mkG (fK dK ds dt (.inRegion kOps5 [14] :: k)) cs) #[scase k4 (dt.getD 30 undef) (.tuple #[])] true .send w #[]:=by
 have e1:=actE (ds:=ds) h
 have hr:∀ w,(execOp (⟨dt,ds⟩:Act).eval (kOps5.getD 14 default)).run Tryz.prog w=.ok (.comm #[scase k4 (dt.getD 30 undef) (.tuple #[])] true .send) w:=fun w=>by
  simp[go_sem,execOp,scase,e1,h,kOps5,kArm,cYes,cOps,cHd,cTl,cIn,kLoop,bK,Tryz.f47]
 have he:∀ w,(execOp (⟨dt,ds⟩:Act).eval (kOps5.getD 14 default)).events Tryz.prog w #[]=#[]:=fun w=>by
  simp[go_sem,execOp,scase,e1,h,kOps5,kArm,cYes,cOps,cHd,cTl,cIn,kLoop,bK,Tryz.f47]
 have:=stepG_comm (P:=Tryz.prog) (main:=false) (b:=fK dK ds #[] []) (a:=⟨dt,ds⟩) (k:=k) (cs:=cs) (ops:=kOps5) (i:=14) (rest:=[]) (o:=kOps5.getD 14 default) (by rfl) (by rfl) (fun h=>by cases h) (hr w)
 rw[listed_none (he w)]at this
 exact this
section
variable {f:FuncId} {Post:Value->World->Prop} {c c':Frame} {gs rs:List Frame} {Inb0 Inb:Nat->Option Seat} {J0:Nat->Prop} {s s':Pt} {k1 k2 k3 k4 j:Nat} {rt dt:Array Value}
theorem inb_back(h0:Inb0 0=none)(hj:j≠0)(dt dt2:Array Value)(s0:Seat):upd (upd (upd (inbL Inb0 k1 k2 k3 j dt) 0 (some s0)) j (some (seatD k1 k2 k3 dt2))) 0 none=inbL Inb0 k1 k2 k3 j dt2:=by
 funext x
 unfold inbL
 by_cases e:x=0
 ·subst e
  rw[upd_same,upd_ne _ _ (Ne.symm hj)]
  exact h0.symm
 ·rw[upd_ne _ _ e]
  by_cases e2:x=j
  ·subst e2;rw[upd_same,upd_same]
  ·rw[upd_ne _ _ e2,upd_ne _ _ e,upd_ne _ _ e2,upd_ne _ _ e2]
theorem arm_reply(h:s.OkD gP Tryz.prog.funcs gE dD dK f Post c gs (upd (inbL Inb0 k1 k2 k3 j dt) 0 (some (seat0 k4 (rtAt rt k4) c' rs))) j [closeD (.chan (some k3))] [bot])(hl:Lp Inb0 J0 rt s k1 k2 k3 k4 j s.rt)(hg:s.gk=.code (gh (cTl dY)) :: gkC)(hr:s.rk=.inRegion kOps5 [14] :: kTail)(h18:s.rt[18]?=some (.chan (some k4))):
  ∃ (s':Pt) (dt':Array Value),s'.Ok gP Tryz.prog.funcs gE dD f Post c c' gs rs (inbL Inb0 k1 k2 k3 j dt')/\Way gP Tryz.prog.funcs gE dD c gs J0 s s'/\s'.gk=.inRegion gops11 [3] :: .code (gh (cTl (cTl dY))) :: gkC/\s'.rk=.inRegion ops11 [3] :: .code (cTl (cTl dY)) :: rkC/\Lp Inb0 J0 s'.rt s' k1 k2 k3 k4 j dt':=by
 obtain⟨n1,n2,n3,n4,n5,n6⟩:=hl.ne
 have hc:=h.co
 rw[hr]at hc
 obtain⟨dt2,hdt2⟩:∃ dt2,dt2=putT (putT s.rt (some 10) (.chan (some k1))) (some 11) (.chan (some k2)):=⟨_,rfl⟩
 have hds:dt2.size=31:=by rw[hdt2,putT_size,putT_size];exact hl.ex.dsz
 have hne2:∀ p,p≠10->p≠11->dt2[p]?=s.rt[p]?:=fun p h1 h2=>by
  rw[hdt2,putT_ne (fun e=>h2 (Option.some.inj e).symm),putT_ne (fun e=>h1 (Option.some.inj e).symm)]
 have d10:dt2[10]?=some (.chan (some k1)):=by
  rw[hdt2,putT_ne (by decide)]
  exact putT_self (by rw[hl.ex.dsz];decide)
 have d11:dt2[11]?=some (.chan (some k2)):=by
  rw[hdt2]
  exact putT_self (by rw[putT_size,hl.ex.dsz];decide)
 have hback:=k_back (k3:=k3) hl.ex.dsz hl.d1 hl.d2
 rw[<-hdt2]at hback
 obtain⟨W1,m1,T1,x1,x2,⟨x3,x4,x5⟩,x6⟩:=cod_send hc (by have:=hl.jn;omega) hl.jn (fun w=>reply_step h18 w) (s0:=seat0 k4 (rtAt rt k4) c' rs) (upd_same _ _ _) (kk:=0) (z:=.bool false) (by rfl) hl.o4 (seatD k1 k2 k3 dt2) (seatD_wf n1) (fun x s' y hx e hy hn=>by
   have hn:=seatD_has hn
   by_cases ex:x=0
   ·subst ex
    rw[upd_same]at e
    obtain rfl:=Option.some.inj e
    have hy:=Seat.one_has.1 hy
    subst hy
    rcases hn with e | e
    ·exact n3 e.symm
    ·exact n5 e.symm
   ·rw[upd_ne _ _ ex,inbL,upd_ne _ _ hx]at e
    have:=hl.fresh _ _ _ e hy
    rcases hn with rfl | rfl
    ·exact hl.n1 this
    ·exact hl.n2 this) (fun y hy=>by
   rcases seatD_has hy with rfl | rfl
   ·exact⟨hl.J1,hl.o1⟩
   ·exact⟨hl.J2,hl.o2⟩) (fun B=>sits_of hback (k_at d10 d11 B)) (af:=fD dD (rtAt rt k4) (.inRegion ops11 [2,3] :: .code (cTl (cTl dY)) :: rkC)) (afs:=c' :: rs) (fun g hg=>hg)
 have hres:commResult (seat0 k4 (rtAt rt k4) c' rs).cases (seat0 k4 (rtAt rt k4) c' rs).shape ((0:Nat):Int) (s.rt.getD 30 undef) true=s.rt.getD 30 undef:=commResult_one _ _ _ _ _ _
 have hfin:(fD dD (rtAt rt k4) (.inRegion ops11 [2,3] :: .code (cTl (cTl dY)) :: rkC)).finish (s.rt.getD 30 undef)=fD dD (putT (rtAt rt k4) (some 39) (s.rt.getD 30 undef)) (.inRegion ops11 [3] :: .code (cTl (cTl dY)) :: rkC):=fD_finish (o:=ops11.getD 2 default) (by rfl) _
 rw[hres,hfin,inb_back hl.z0 hl.j0]at x2
 have hopn:∀ k,k≠k4->Opn s.W k->Opn W1 k:=fun k hk ho=>by
  obtain⟨a,ha⟩:=ho
  exact⟨a,(x5 k hk).trans ha⟩
 obtain⟨s1,hs1⟩:∃ s1:Pt,s1=⟨.code (gh (cTl dY)) :: gkC,.inRegion ops11 [3] :: .code (cTl (cTl dY)) :: rkC,s.gt,putT (rtAt rt k4) (some 39) (s.rt.getD 30 undef),s.u,W1,m1,T1,s.J,s.n⟩:=⟨_,rfl⟩
 have h1:s1.Ok gP Tryz.prog.funcs gE dD f Post c c' gs rs (inbL Inb0 k1 k2 k3 j dt2):=by
  rw[hs1]
  exact⟨by have:=h.inev;rw[hg]at this;exact this,x2⟩
 have w1:Way gP Tryz.prog.funcs gE dD c gs J0 s s1:=by
  rw[hs1]
  exact⟨.inl ⟨rfl,hg.symm,rfl⟩,x1,fun _ h=>h,Nat.le_refl _,x3,x4,fun k hk=>x5 k fun e=>hl.n4 (e ▸ hk)⟩
 have hv:s.gt.getD 83 undef=s.rt.getD 30 undef:=by
  rw[Array.getD_eq_getD_getElem?,Array.getD_eq_getD_getElem?]
  exact congrArg (·.getD undef) (hl.ex.eq 30 (by decide))
 have hv0:s.gt.getD 0 undef=rt.getD 0 undef:=by
  rw[Array.getD_eq_getD_getElem?,Array.getD_eq_getD_getElem?]
  exact congrArg (·.getD undef) (hl.two.eq 0 (by decide))
 have hgt1:s1.gt=s.gt:=by rw[hs1]
 obtain⟨h2,w2⟩:=gh_turns 2 (gk:=.inRegion gops11 [0,1,2,3] :: .code (gh (cTl (cTl dY))) :: gkC) h1 (by rw[hs1];rfl)
 obtain⟨h3,w3⟩:=gh_pure h2 (o:=gops11.getD 0 default) (v:=rt.getD 0 undef) (by rfl) (by rfl) (by rfl) (by
  show execOp (fD dD s1.gt []).eval _=_
  rw[hgt1,<-hv0];rfl)
 have e9:(fD dD (putT s.gt (some 37) (rt.getD 0 undef)) []).eval (.tmp 9)=_:=evalD ((putT_ne (by decide)).trans hl.g9)
 obtain⟨h4,w4⟩:=gh_pure h3 (o:=gops11.getD 1 default) (v:=.chan (some k4)) (by rfl) (by rfl) (by rfl) (by
  show execOp (fD dD (putT s1.gt (some 37) (rt.getD 0 undef)) []).eval _=_
  rw[hgt1,<-e9];rfl)
 have e83:(fD dD (putT (putT s.gt (some 37) (rt.getD 0 undef)) (some 38) (.chan (some k4))) []).eval (.tmp 83)=s.rt.getD 30 undef:=by
  show (putT (putT s.gt (some 37) (rt.getD 0 undef)) (some 38) (.chan (some k4))).getD 83 undef=_
  rw[<-hv,Array.getD_eq_getD_getElem?,putT_ne (by decide),putT_ne (by decide),Array.getD_eq_getD_getElem?]
 obtain⟨h5,w5⟩:=gh_pure h4 (o:=gops11.getD 2 default) (v:=s.rt.getD 30 undef) (by rfl) (by rfl) (by rfl) (by
  show execOp (fD dD (putT (putT s1.gt (some 37) (rt.getD 0 undef)) (some 38) (.chan (some k4))) []).eval _=_
  rw[hgt1,<-e83];rfl)
 have hJ1:s1.J=s.J:=by rw[hs1]
 have hw:=((w2.trans w3).trans w4).trans w5
 refine⟨_,dt2,h5,w1.trans (hw.weak fun k hk=>by rw[hJ1];exact hl.sub k hk),rfl,by rw[hs1],?_⟩
 have hgl:∀ p,p≠37->p≠38->p≠39->(putT (putT (putT s.gt (some 37) (rt.getD 0 undef)) (some 38) (.chan (some k4))) (some 39) (s.rt.getD 30 undef))[p]?=s.gt[p]?:=fun p a b c=>by
  rw[putT_ne (fun e=>c (Option.some.inj e).symm),putT_ne (fun e=>b (Option.some.inj e).symm),putT_ne (fun e=>a (Option.some.inj e).symm)]
 have htwo:Two (putT (rtAt rt k4) (some 39) (s.rt.getD 30 undef)) (putT (putT (putT s.gt (some 37) (rt.getD 0 undef)) (some 38) (.chan (some k4))) (some 39) (s.rt.getD 30 undef)):=((hl.two.put (d:=some 37) (fun x hx=>by cases hx;decide) _).put (d:=some 38) (fun x hx=>by cases hx;decide) _).put (d:=some 39) (fun x hx=>by cases hx;decide) _
 have hex:Ex (putT (putT (putT s.gt (some 37) (rt.getD 0 undef)) (some 38) (.chan (some k4))) (some 39) (s.rt.getD 30 undef)) dt2:=⟨htwo.gsz,hds,fun k hk=>by
  rw[hgl _ (by omega) (by omega) (by omega),hl.ex.eq k hk,hne2 k (fun e=>by subst e;cases hk) (fun e=>by subst e;cases hk)]⟩
 obtain⟨i,hi⟩:=hl.g8
 rw[hs1]
 exact⟨htwo,hex,(hgl 5 (by decide) (by decide) (by decide)).trans hl.g5,(hgl 6 (by decide) (by decide) (by decide)).trans hl.g6,(hgl 7 (by decide) (by decide) (by decide)).trans hl.g7,⟨i,(hgl 8 (by decide) (by decide) (by decide)).trans hi⟩,(hgl 9 (by decide) (by decide) (by decide)).trans hl.g9,hl.j0,hl.jn,hl.in0,hl.z0,hl.J1,hl.J2,hl.J3,hl.J4,hl.n1,hl.n2,hl.n3,hl.n4,hopn _ n3 hl.o1,hopn _ n5 hl.o2,hopn _ n6 hl.o3,x6,hl.ne,hl.fresh,hl.sub,(hne2 1 (by decide) (by decide)).trans hl.d1,(hne2 2 (by decide) (by decide)).trans hl.d2,d10,d11⟩
end
section
variable {f:FuncId} {Post:Value->World->Prop} {c c':Frame} {gs rs:List Frame} {Inb0 Inb:Nat->Option Seat} {J0:Nat->Prop} {s s':Pt} {k1 k2 k3 k4 j:Nat} {rt dt:Array Value}
theorem Way.ltr'{J:Nat->Prop}{P:Program}{F:Array Func}{E:List String}{D:FuncId}{s s1 s2:Pt}(h:Ltr P E (fD D s.gt s.gk) (c :: gs) s.u (fD D s1.gt s1.gk) (c :: gs) s1.u)(w:Way P F E D c gs J s1 s2):Ltr P E (fD D s.gt s.gk) (c :: gs) s.u (fD D s2.gt s2.gk) (c :: gs) s2.u:=by
 rcases w.ltr with ⟨a1,a2,a3⟩ | h1
 ·rw[a1,a2,a3];exact h
 ·exact h.trans h1
theorem lp_comm(hE:Ext gP gE)(h:s.Ok gP Tryz.prog.funcs gE dD f Post c c' gs rs (inbL Inb0 k1 k2 k3 j dt))(ih:Fwd gP Tryz.prog.funcs gE dD f Post c gs s)(hl:Lp Inb0 J0 s.rt s k1 k2 k3 k4 j dt)(hg:s.gk=.code (gh dY) :: gkC)(hr:s.rk=.code dY :: rkC):
  ∃ (s':Pt) (dt':Array Value),s'.Ok gP Tryz.prog.funcs gE dD f Post c c' gs rs (inbL Inb0 k1 k2 k3 j dt')/\Way gP Tryz.prog.funcs gE dD c gs J0 s s'/\s'.gk=.inRegion gops11 [3] :: .code (gh (cTl (cTl dY))) :: gkC/\s'.rk=.inRegion ops11 [3] :: .code (cTl (cTl dY)) :: rkC/\Lp Inb0 J0 s'.rt s' k1 k2 k3 k4 j dt':=by
 obtain⟨s1,i,h1,w1,g1,r1,l1,b1,b2⟩:=lp_prep hE h ih hl hg hr
 obtain⟨s2,h2,w2,g2,r2,l2,b3,b4⟩:=lp_send h1 l1 g1 r1 b1 b2
 obtain⟨s3,h3,w3,g3,r3,t3,u3,l3,b5⟩:=arm_sees h2 l2 r2 b4
 obtain⟨s4,x,h4,w4,g4,r4,l4,_,_⟩:=arm_store hE h3 l3 (by rw[g3];exact g2) r3 b5 (by rw[t3];exact b3)
 obtain⟨s5,h5,w5,g5,r5,l5⟩:=arm_answer hE h4 l4 g4 r4
 obtain⟨s6,h6,w6,g6,r6,t6,l6,b6⟩:=arm_chan h5 l5 g5
 obtain⟨s7,dt',h7,w7,g7,r7,l7⟩:=arm_reply h6 l6 g6 (by rw[r6];exact r5) b6
 exact⟨s7,dt',h7,(((((w1.trans w2).trans w3).trans w4).trans w5).trans w6).trans w7,g7,r7,l7⟩
noncomputable def ops12:Array Oper:=cOps (cHd (cTl (cTl dY)))
noncomputable def gops12:Array Oper:=mapA ghOp ops12
theorem lp_count(hE:Ext gP gE)(h:s.Ok gP Tryz.prog.funcs gE dD f Post c c' gs rs (inbL Inb0 k1 k2 k3 j dt))(ih:Fwd gP Tryz.prog.funcs gE dD f Post c gs s)(hl:Lp Inb0 J0 s.rt s k1 k2 k3 k4 j dt)(hg:s.gk=.inRegion gops11 [3] :: .code (gh (cTl (cTl dY))) :: gkC)(hr:s.rk=.inRegion ops11 [3] :: .code (cTl (cTl dY)) :: rkC):
  ∃ s':Pt,s'.Ok gP Tryz.prog.funcs gE dD f Post c c' gs rs (inbL Inb0 k1 k2 k3 j dt)/\Way gP Tryz.prog.funcs gE dD c gs J0 s s'/\s'.gk=gkHead/\s'.rk=rkHead/\Lp Inb0 J0 s'.rt s' k1 k2 k3 k4 j dt:=by
 obtain⟨s1,h1,w1,g1,r1,t1,p1⟩:=reg_both hE alike (prot:=protL) (ops:=gops11) (ops':=ops11) (rest:=[]) (kg:=.code (gh (cTl (cTl dY))) :: gkC) (kr:=.code (cTl (cTl dY)) :: rkC) [3] h ih hg hr (fun i hi=>by
  obtain rfl:=List.mem_singleton.1 hi
  exact⟨ops11.getD 3 default,by rfl,by rfl,by kernel_rfl⟩) hl.two
 have l1:=hl.way w1 t1 p1
 have i1:=ih.way w1
 obtain⟨s2,h2,w2,g2,r2,l2⟩:=lp_turns 3 3 (gk:=.inRegion gops12 [0,1,2] :: .code (.exit 1) :: gkC) (rk:=.inRegion ops12 [0,1,2] :: .code (.exit 1) :: rkC) h1 l1 (by rw[g1];rfl) (by rw[r1];rfl)
 have i2:=i1.way w2
 obtain⟨i,hi⟩:=l2.g8
 have r8:s2.rt[8]?=some (.int .i64 i):=(l2.two.eq 8 (by decide)).symm.trans hi
 obtain⟨s3,h3,w3,g3,r3,l3,t3,q3⟩:=lp_known h2 l2 41 (v:=.int .i64 i) g2 r2 (o:=gops12.getD 0 default) (o':=ops12.getD 0 default) (by rfl) (by rfl) (by rfl) (by rfl) (by decide) (by rfl) (by rfl) (by
  have e:(fD dD s2.gt []).eval (.tmp 8)=_:=evalD hi
  rw[<-e];rfl) (by
  have e:(fD dD s2.rt []).eval (.tmp 8)=_:=evalD r8
  rw[<-e];rfl)
 have i3:=i2.way w3
 have b41:s3.gt[41]?=some (.int .i64 i):=by
  rw[t3]
  exact putT_self (by have:=l2.two.gsz;omega)
 have e41:(fD dD s3.gt []).eval (.tmp 41)=_:=evalD b41
 obtain⟨s4,v,h4,w4,g4,r4,t4,q4,hy⟩:=lp_op hE h3 i3 l3 42 g3 r3 (o:=ops12.getD 1 default) (by rfl) (by rfl) (by rfl) (by decide) (by kernel_rfl)
 have hv:∃ m,v=.int .i64 m:=by
  rcases hy with ⟨τ,nx,hrun,hnx⟩ |⟨τ,g,args,w1,hrun⟩
  ·have evc:(fD dD s3.gt []).eval (.const (.int .i64 1))=.int .i64 1:=rfl
   simp[go_sem,execOp,e41,evc,ops12,dY,dLB,dBlk,cTs,cOps,cHd,cTl,cIn,cYes,bD,Tryz.f26]at hrun
   obtain⟨rfl,_⟩:=hrun
   rcases hnx with e |⟨e,_⟩
   ·exact⟨_,(Next.value.inj e).symm⟩
   ·cases e
  ·exfalso
   have:=simple_v (D:=g) (s:=(do eqGuard _ _ _ _ _ _;binOp _ _ _ _)) hrun
   exact this rfl
 obtain⟨m,rfl⟩:=hv
 have ht4:Two s4.rt s4.gt:=by rw[t4,q4];exact l3.two.put (d:=some 42) (fun x hx=>by cases hx;decide) _
 have l4:=l3.way w4 ht4 (fun p hp=>by
  rw[t4]
  refine putT_ne (fun e=>?_)
  cases e
  rcases hp with hp | hp
  ·exact absurd hp (by decide)
  ·exact absurd hp (by decide))
 have b42:s4.gt[42]?=some (.int .i64 m):=by
  rw[t4]
  exact putT_self (by have:=l3.two.gsz;omega)
 have c42:s4.rt[42]?=some (.int .i64 m):=by
  rw[q4]
  exact putT_self (by have:=l3.two.rsz;omega)
 have f42:(fD dD s4.gt []).eval (.tmp 42)=_:=evalD b42
 have f42':(fD dD s4.rt []).eval (.tmp 42)=_:=evalD c42
 obtain⟨W,mm,T,h5,w5⟩:=both_pure h4 g4 (o:=gops12.getD 2 default) (v:=.int .i64 m) (by rfl) (by rfl) (by rw[<-f42];rfl) r4 (o':=ops12.getD 2 default) (v':=.int .i64 m) (by rfl) (by rfl) (by rw[<-f42'];rfl)
 have hne:∀ p,p≠8->(putT s4.gt (some 8) (.int .i64 m))[p]?=s4.gt[p]?:=fun p hp=>putT_ne (fun e=>hp (Option.some.inj e).symm)
 have l5:Lp Inb0 J0 (putT s4.rt (some 8) (.int .i64 m)) ⟨.inRegion gops12 [] :: .code (.exit 1) :: gkC,.inRegion ops12 [] :: .code (.exit 1) :: rkC,putT s4.gt (some 8) (.int .i64 m),putT s4.rt (some 8) (.int .i64 m),s4.u,W,mm,T,s4.J,s4.n⟩ k1 k2 k3 k4 j dt:=
  {l4 with
   two:=l4.two.put (d:=some 8) (fun x hx=>by cases hx;decide) _
   ex:=⟨by rw[putT_size];exact l4.ex.gsz,l4.ex.dsz,fun k hk=>(hne _ (by omega)).trans (l4.ex.eq k hk)⟩
   g5:=(hne 5 (by decide)).trans l4.g5
   g6:=(hne 6 (by decide)).trans l4.g6
   g7:=(hne 7 (by decide)).trans l4.g7
   g8:=⟨m,putT_self (by have:=l4.two.gsz;omega)⟩
   g9:=(hne 9 (by decide)).trans l4.g9
   o1:=opn_kp l4.o1 w5.kp l4.J1
   o2:=opn_kp l4.o2 w5.kp l4.J2
   o3:=opn_kp l4.o3 w5.kp l4.J3
   o4:=opn_kp l4.o4 w5.kp l4.J4}
 obtain⟨s6,h6,w6,g6,r6,l6⟩:=lp_turns 3 3 (gk:=gkHead) (rk:=rkHead) h5 l5 (by rfl) (by rfl)
 exact⟨s6,h6,(((((w1.weak hl.sub).trans w2).trans w3).trans (w4.weak l3.sub)).trans (w5.weak l4.sub)).trans w6,g6,r6,l6⟩
noncomputable def lA:Code:=cHd dLB
noncomputable def lB:Code:=cHd (cTl dLB)
theorem lp_loop(hE:Ext gP gE){fr:Frame}{frs:List Frame}{u:World}(hI:Inev gP gE f Post fr frs u):∀ (s:Pt) (dt:Array Value),fr=fD dD s.gt s.gk->frs=c :: gs->u=s.u->s.Ok gP Tryz.prog.funcs gE dD f Post c c' gs rs (inbL Inb0 k1 k2 k3 j dt)->Fwd gP Tryz.prog.funcs gE dD f Post c gs s->Lp Inb0 J0 s.rt s k1 k2 k3 k4 j dt->s.gk=gkHead->s.rk=rkHead->
  ∃ (s':Pt) (dt':Array Value),s'.Ok gP Tryz.prog.funcs gE dD f Post c c' gs rs (inbL Inb0 k1 k2 k3 j dt')/\Way gP Tryz.prog.funcs gE dD c gs J0 s s'/\s'.gk=[.code (gh dR8)]/\s'.rk=[.code dR8]/\Lp Inb0 J0 s'.rt s' k1 k2 k3 k4 j dt':=by
 refine inev_strong (C:=fun fr frs u=>∀ (s:Pt) (dt:Array Value),fr=fD dD s.gt s.gk->frs=c :: gs->u=s.u->s.Ok gP Tryz.prog.funcs gE dD f Post c c' gs rs (inbL Inb0 k1 k2 k3 j dt)->Fwd gP Tryz.prog.funcs gE dD f Post c gs s->Lp Inb0 J0 s.rt s k1 k2 k3 k4 j dt->s.gk=gkHead->s.rk=rkHead->
  ∃ (s':Pt) (dt':Array Value),s'.Ok gP Tryz.prog.funcs gE dD f Post c c' gs rs (inbL Inb0 k1 k2 k3 j dt')/\Way gP Tryz.prog.funcs gE dD c gs J0 s s'/\s'.gk=[.code (gh dR8)]/\s'.rk=[.code dR8]/\Lp Inb0 J0 s'.rt s' k1 k2 k3 k4 j dt') (fun fr frs u hI IH=>?_) hI
 rintro s dt rfl rfl rfl h ih hl hg hr
 obtain⟨x1,y1⟩:=h.inev.turn (fr1:=fD dD s.gt (.code (gh dLB) :: gkIn)) (frs1:=c :: gs) fD_runs (fun cs w=>ctl1_step (by rw[hg];rfl) _ true _ w)
 obtain⟨W0,m0,T0,h0,w0⟩:=turns 1 1 (gk:=.code (gh dLB) :: gkIn) (rk:=.code dLB :: rkIn) h (by rw[hg];rfl) (by rw[hr];rfl)
 have l0:=hl.way w0 hl.two fun _ _=>rfl
 have again:∀ (s1:Pt) (dt1:Array Value),s1.Ok gP Tryz.prog.funcs gE dD f Post c c' gs rs (inbL Inb0 k1 k2 k3 j dt1)->Way gP Tryz.prog.funcs gE dD c gs J0 ⟨.code (gh dLB) :: gkIn,.code dLB :: rkIn,s.gt,s.rt,s.u,W0,m0,T0,s.J,s.n⟩ s1->s1.gk=gkHead->s1.rk=rkHead->Lp Inb0 J0 s1.rt s1 k1 k2 k3 k4 j dt1->∃ (s':Pt) (dt':Array Value),s'.Ok gP Tryz.prog.funcs gE dD f Post c c' gs rs (inbL Inb0 k1 k2 k3 j dt')/\Way gP Tryz.prog.funcs gE dD c gs J0 s s'/\s'.gk=[.code (gh dR8)]/\s'.rk=[.code dR8]/\Lp Inb0 J0 s'.rt s' k1 k2 k3 k4 j dt':=fun s1 dt1 h1 w1 g1 r1 l1=>by
  have hL:Ltr gP gE (fD dD s.gt s.gk) (c :: gs) s.u (fD dD s1.gt s1.gk) (c :: gs) s1.u:=Way.ltr' (.one x1) w1
  have ww:=(w0.weak hl.sub).trans w1
  obtain⟨s2,dt2,h2,w2,g2,r2,l2⟩:=IH _ _ _ hL h1.inev s1 dt1 rfl rfl rfl h1 (ih.way ww) l1 g1 r1
  exact⟨s2,dt2,h2,ww.trans w2,g2,r2,l2⟩
 have i0:=ih.way w0
 obtain⟨s1,h1,w1,g1,r1,l1⟩:=lp_turns 2 2 (gk:=.code (gh (cHd lA)) :: .code (gh (cTl lA)) :: .code (gh (cTl dLB)) :: gkIn) (rk:=.code (cHd lA) :: .code (cTl lA) :: .code (cTl dLB) :: rkIn) h0 l0 (by rfl) (by rfl)
 obtain⟨s2,h2,w2,g2,r2,l2⟩:=lp_region hE h1 (i0.way w1) l1 (id:=7) (id':=7) (ops:=cOps (cHd lA)) g1 r1 (by kernel_rfl)
 have w02:=w1.trans w2
 obtain⟨s3,h3,w3,g3,r3,l3⟩:=lp_turns 1 1 (gk:=.code (gh (cHd (cTl lA))) :: .code (gh (cTl (cTl lA))) :: .code (gh (cTl dLB)) :: gkIn) (rk:=.code (cHd (cTl lA)) :: .code (cTl (cTl lA)) :: .code (cTl dLB) :: rkIn) h2 l2 (by rw[g2];rfl) (by rw[r2];rfl)
 have w03:=w02.trans w3
 obtain⟨s4,h4,w4,g4,r4,l4⟩:=lp_region hE h3 (i0.way w03) l3 (id:=8) (id':=8) (ops:=cOps (cHd (cTl lA))) g3 r3 (by kernel_rfl)
 have w04:=w03.trans w4
 obtain⟨v5,s5,h5,w5,g5,r5,l5⟩:=lp_cond h4 l4 (o:=.tmp 26) (by decide) (a:=.exit 1) (b:=.skip) (a':=.exit 1) (b':=.skip) (kg:=.code (gh (cTl dLB)) :: gkIn) (kr:=.code (cTl dLB) :: rkIn) (by rw[g4];rfl) (by rw[r4];rfl)
 have w05:=w04.trans w5
 cases v5 with
 | true=>
   obtain⟨s6,h6,w6,g6,r6,l6⟩:=lp_turns 2 2 (gk:=gkHead) (rk:=rkHead) h5 l5 (by rw[g5];rfl) (by rw[r5];rfl)
   exact again s6 dt h6 (w05.trans w6) g6 r6 l6
 | false=>
 obtain⟨s6,h6,w6,g6,r6,l6⟩:=lp_turns 3 3 (gk:=.code (gh (cHd lB)) :: .code (gh (cTl lB)) :: gkC) (rk:=.code (cHd lB) :: .code (cTl lB) :: rkC) h5 l5 (by rw[g5];rfl) (by rw[r5];rfl)
 have w06:=w05.trans w6
 obtain⟨s7,h7,w7,g7,r7,l7⟩:=lp_region hE h6 (i0.way w06) l6 (id:=9) (id':=9) (ops:=cOps (cHd lB)) g6 r6 (by kernel_rfl)
 have w07:=w06.trans w7
 obtain⟨v8,s8,h8,w8,g8,r8,l8⟩:=lp_cond h7 l7 (o:=.tmp 32) (by decide) (a:=gh dY) (b:=.skip) (a':=dY) (b':=.skip) (kg:=gkC) (kr:=rkC) (by rw[g7];rfl) (by rw[r7];rfl)
 have w08:=w07.trans w8
 cases v8 with
 | true=>
   obtain⟨s9,dt9,h9,w9,g9,r9,l9⟩:=lp_comm hE h8 (i0.way w08) l8 g8 r8
   have w09:=w08.trans w9
   obtain⟨s10,h10,w10,g10,r10,l10⟩:=lp_count hE h9 (i0.way w09) l9 g9 r9
   exact again s10 dt9 h10 (w09.trans w10) g10 r10 l10
 | false=>
 obtain⟨s9,h9,w9,g9,r9,l9⟩:=lp_turns 3 3 (gk:=.code (gh (cHd (cHd dC))) :: .code (gh (cTl (cHd dC))) :: .code (gh (cTl dC)) :: gkIn) (rk:=.code (cHd (cHd dC)) :: .code (cTl (cHd dC)) :: .code (cTl dC) :: rkIn) h8 l8 (by rw[g8];rfl) (by rw[r8];rfl)
 have w09:=w08.trans w9
 obtain⟨s10,h10,w10,g10,r10,l10⟩:=lp_region hE h9 (i0.way w09) l9 (id:=13) (id':=13) (ops:=cOps (cHd (cHd dC))) g9 r9 (by kernel_rfl)
 have w010:=w09.trans w10
 obtain⟨v11,s11,h11,w11,g11,r11,l11⟩:=lp_cond h10 l10 (o:=.tmp 46) (by decide) (a:=.exit 0) (b:=.skip) (a':=.exit 0) (b':=.skip) (kg:=.code (gh (cTl dC)) :: gkIn) (kr:=.code (cTl dC) :: rkIn) (by rw[g10];rfl) (by rw[r10];rfl)
 have w011:=w010.trans w11
 cases v11 with
 | true=>
   obtain⟨s12,h12,w12,g12,r12,l12⟩:=lp_turns 1 1 (gk:=[.code (gh dR8)]) (rk:=[.code dR8]) h11 l11 (by rw[g11];rfl) (by rw[r11];rfl)
   exact⟨s12,dt,h12,(w0.weak hl.sub).trans (w011.trans w12),g12,r12,l12⟩
 | false=>
 obtain⟨s12,h12,w12,g12,r12,l12⟩:=lp_turns 1 1 (gk:=.code (gh (cTl dC)) :: gkIn) (rk:=.code (cTl dC) :: rkIn) h11 l11 (by rw[g11];rfl) (by rw[r11];rfl)
 have w012:=w011.trans w12
 obtain⟨s13,h13,w13,g13,r13,l13⟩:=lp_region hE h12 (i0.way w012) l12 (id:=14) (id':=14) (ops:=cOps (cTl dC)) g12 r12 (by kernel_rfl)
 have w013:=w012.trans w13
 obtain⟨s14,h14,w14,g14,r14,l14⟩:=lp_turns 2 2 (gk:=gkHead) (rk:=rkHead) h13 l13 (by rw[g13];rfl) (by rw[r13];rfl)
 exact again s14 dt h14 (w013.trans w14) g14 r14 l14
end
noncomputable def ops15:Array Oper:=cOps (cHd dR8)
noncomputable def ops16:Array Oper:=cOps (cHd (cTl dR8))
noncomputable def gops15:Array Oper:=mapA ghOp ops15
noncomputable def gops16:Array Oper:=mapA ghOp ops16
noncomputable def recE(rt:Array Value)(c':Frame)(rs:List Frame):Goroutine:=mkG (fD dD rt [.inRegion ops16 [1],.code (cTl (cTl dR8))]) (c' :: rs)
noncomputable def seatE(k3:Nat)(rt:Array Value)(c':Frame)(rs:List Frame):Seat:=Seat.one k3 (.agg #[]) false (fun g=>g=recE rt c' rs)
def rtE(rt:Array Value)(k3:Nat):Array Value:=putT rt (some 50) (.chan (some k3))
theorem loudD:(Tryz.prog.funcs[dD]?).any (·.norace)=false:=by rw[Tryz.func26];rfl
theorem loudK:(Tryz.prog.funcs[dK]?).any (·.norace)=false:=by rw[Tryz.func47];rfl
theorem close_step{rt:Array Value}{k2:Nat}{k:List Item}{cs:List Frame}(h:rt[49]?=some (.chan (some k2)))(w:World)(cap a:Nat)(hc:w.heap[k2]?=some (.chan cap #[] false a a false)):
  stepG Tryz.prog true (mkG (fD dD rt (.inRegion ops15 [1] :: k)) cs) w=.go (mkG (fD dD rt (.inRegion ops15 [] :: k)) cs) (w.setChan k2 cap #[] true a a false) (closeEvents k2):=by
 obtain⟨ts,hts⟩:∃ ts,(ops15.getD 1 default).op=.call {callee:=.builtin .close,args:=#[.tmp 49],argTypes:=ts}:=⟨_,by rfl⟩
 exact stepG_close (P:=Tryz.prog) (main:=true) (b:=fD dD #[] []) (a:=⟨rt,[]⟩) (kk:=k) (cs:=cs) (ops:=ops15) (i:=1) (rest:=[]) (o:=ops15.getD 1 default) (by rfl) (by rfl) (fun h=>by cases h) hts (actE h) hc loudD
theorem close_wake{rt:Array Value}{k:List Item}{cs:List Frame}:mayWake Tryz.prog (mkG (fD dD rt (.inRegion ops15 [1] :: k)) cs)=true:=by rfl
theorem atE{rt:Array Value}{k3:Nat}{c':Frame}{rs:List Frame}(hsz:53<=rt.size)(B:Nat):AtIn Tryz.prog true (fun _=>True) (fun _=>False) B (seatE k3 (rtE rt k3) c' rs) (recE (rtE rt k3) c' rs) (recE (rtE rt k3) c' rs):=by
 have h:(rtE rt k3)[50]?=some (.chan (some k3)):=putT_self (by omega)
 have e1:=actE (ds:=[]) h
 refine atIn_of (b:=fD dD #[] []) (a:=⟨rtE rt k3,[]⟩) (ops:=ops16) (i:=1) (rest:=[]) (s:=seatE k3 (rtE rt k3) c' rs) (by rfl) (by rfl) (fun h=>by cases h) (fun w=>?_) (fun w=>?_) (by rfl)
 ·simp[go_sem,execOp,rcase,seatE,Seat.one,e1,h,ops16,dR8,cTs,cOps,cHd,cTl,bD,Tryz.f26]
 ·simp[go_sem,execOp,rcase,seatE,Seat.one,e1,h,ops16,dR8,cTs,cOps,cHd,cTl,bD,Tryz.f26]
theorem toE{rt:Array Value}{k3:Nat}{c':Frame}{rs:List Frame}(h7:rt[7]?=some (.chan (some k3))):Trn Tryz.prog true 4 (mkG (fD dD rt [.inRegion ops15 [],.code (cTl dR8)]) (c' :: rs)) (recE (rtE rt k3) c' rs):=by
 have a1:Trn Tryz.prog true 3 (mkG (fD dD rt [.inRegion ops15 [],.code (cTl dR8)]) (c' :: rs)) (mkG (fD dD rt [.inRegion ops16 [0,1],.code (cTl (cTl dR8))]) (c' :: rs)):=trn_ctlD 3 (by rfl)
 have a2:=trn_knownD (R:=Tryz.prog) (main:=true) (D:=dD) (t:=rt) (cs:=c' :: rs) (ops:=ops16) (i:=0) (rest:=[1]) (k:=[.code (cTl (cTl dR8))]) (v:=.chan (some k3)) (by rfl) (by rfl) (by
  have e:(fD dD rt []).eval (.tmp 7)=_:=evalD h7
  rw[<-e]
  exact known_pure)
 exact a1.trans a2
noncomputable def kRet(ds:List Deferred)(dt:Array Value)(k:List Item):Frame:={fK dK ds dt k with mode:=.returning}
theorem ret_stepK{ds:List Deferred}{dt:Array Value}{k:List Item}{cs:List Frame}(w:World):stepG Tryz.prog false (mkG (fK dK ds dt (.code .ret :: k)) cs) w=.go (mkG (kRet ds dt (.code .ret :: k)) cs) w #[]:=by rfl
theorem close_stepK{dt:Array Value}{k3:Nat}{k:List Item}{cs:List Frame}(w:World)(cap a:Nat)(hc:w.heap[k3]?=some (.chan cap #[] false a a false)):
  stepG Tryz.prog false (mkG (kRet [closeD (.chan (some k3))] dt k) cs) w=.go (mkG (kRet [] dt k) cs) (w.setChan k3 cap #[] true a a false) (closeEvents k3):=by
 obtain⟨ts,ty,co,hcl⟩:∃ ts ty co,closeD (.chan (some k3))={target:=.builtin .close ts ty co,args:=#[.chan (some k3)]}:=⟨_,_,_,by rfl⟩
 have h1:stepG Tryz.prog false (mkG (kRet [closeD (.chan (some k3))] dt k) cs) w=callDeferred Tryz.prog (kRet [] dt k) cs none (closeD (.chan (some k3))) w:=by rfl
 rw[h1,hcl]
 unfold callDeferred
 have hr:(invoke (.builtin .close ts ty co) #[.chan (some k3)]).runT Tryz.prog w #[]=(.ok (.value (.tuple #[])) (w.setChan k3 cap #[] true a a false),closeEvents k3):=by
  simp[go_sem,invoke,run_close_open _ _ hc,events_close_open _ _ hc,World.setChan,closeEvents]
 simp only[hr]
 have hs:seen Tryz.prog (kRet [] dt k).fn (closeEvents k3)=closeEvents k3:=seen_eq loudK (by intro e he f;simp only[closeEvents,List.mem_toArray,List.mem_cons,List.not_mem_nil,or_false]at he;rcases he with rfl | rfl <;> simp)
 rw[hs]
 rfl
theorem close_wakeK{dt:Array Value}{v:Value}{k:List Item}{cs:List Frame}:mayWake Tryz.prog (mkG (kRet [closeD v] dt k) cs)=true:=by rfl
theorem k_quits(dt:Array Value)(k:List Item):QuitsD Tryz.prog 2 0 (mkG (kRet [] dt k) [bot]):=by
 refine QuitsD.ctl (g':=mkG bot []) rfl (fun w=>?_) ?_
 ·have hu:stepG Tryz.prog false (mkG (kRet [] dt k) [bot]) w=unwind Tryz.prog false (kRet [] dt k) [bot] none w:=by rfl
  rw[hu,unwind]
  simp[kRet,fK,Tryz.func47,Tryz.f47,results,seen,doReturn,GStep.after,bot,goexitEntry,mkG]
 refine QuitsD.ctl (g':={mkG bot []with status:=.finished}) rfl (fun w=>?_) ⟨rfl,rfl⟩
 have hu:stepG Tryz.prog false (mkG bot []) w=unwind Tryz.prog false bot [] none w:=by rfl
 rw[hu,unwind]
 simp[bot,Frame.catches,goexitEntry,mkG]
 rfl
section
variable {f:FuncId} {Post:Value->World->Prop} {c c':Frame} {gs rs:List Frame} {Inb0 Inb:Nat->Option Seat} {J0:Nat->Prop} {s s':Pt} {k1 k2 k3 k4 j:Nat} {rt dt:Array Value}
theorem disk_ends{u W:World}{m:Machine}{T:Trace}{n:Nat}{J:Nat->Prop}{rtx:Array Value}(hC:CoD Tryz.prog Inb J n j (fK dK [closeD (.chan (some k3))] dt (selK [1,2,3])) [bot] u W m T)(hn:0<n)(hs:dt.size=31)(h12:dt[12]?=some (.tuple #[.int .i64 1,.bool false,.agg #[.int .i64 0,.chan none],.agg #[]]))(h0:Inb 0=some (seatE k3 rtx c' rs))(hjI:Inb j=none)(hin:Opn W k3)(hJ:J k3):
  ∃ W1 m1 T1,Rch Tryz.prog m T m1 T1/\Co Tryz.prog (upd Inb 0 none) J n (fD dD (putT rtx (some 51) (.agg #[])) [.inRegion ops16 [],.code (cTl (cTl dR8))]) (c' :: rs) u W1 m1 T1/\(W1.os=W.os/\W1.output=W.output/\∀ x,J x->x≠k3->W1.heap[x]?=W.heap[x]?):=by
 have kc:cIn (cTl (cTl kX))=kCond:=rfl
 obtain⟨W1,m1,T1,r1,c1,q1⟩:=cod_turn hC (fun cs w=>known_stepK (X:=Tryz.prog) (o:=(cOps kSel).getD 1 default) (v:=.int .i64 1) (by rfl) (by rfl) (known_extract (i:=12) (p:=0) (by rfl) h12 (by rfl)) false _ w)
 have b13:(putT dt (some 13) (.int .i64 1))[13]?=some (.int .i64 1):=putT_self (by omega)
 have e13:(fK dK [closeD (.chan (some k3))] (putT dt (some 13) (.int .i64 1)) []).eval (.tmp 13)=_:=evalK b13
 change CoD Tryz.prog Inb J n j (fK dK [closeD (.chan (some k3))] (putT dt (some 13) (.int .i64 1)) (selK [2,3])) [bot] u W1 m1 T1 at c1
 obtain⟨W2,m2,T2,r2,c2,q2⟩:=cod_turn c1 (fun cs w=>known_stepK (X:=Tryz.prog) (o:=(cOps kSel).getD 2 default) (v:=.bool false) (by rfl) (by rfl) (fun w=>by
  simp[go_sem,execOp,evalKc,e13,cOps,kSel,cHd,cTl,cIn,kLoop,bK,Tryz.f47]) false _ w)
 change CoD Tryz.prog Inb J n j (fK dK [closeD (.chan (some k3))] (putT (putT dt (some 13) (.int .i64 1)) (some 14) (.bool false)) (selK [3])) [bot] u W2 m2 T2 at c2
 have b13':(putT (putT dt (some 13) (.int .i64 1)) (some 14) (.bool false))[13]?=some (.int .i64 1):=(putT_ne (by decide)).trans b13
 have e13':(fK dK [closeD (.chan (some k3))] (putT (putT dt (some 13) (.int .i64 1)) (some 14) (.bool false)) []).eval (.tmp 13)=_:=evalK b13'
 obtain⟨W3,m3,T3,r3,c3,q3⟩:=cod_turn c2 (fun cs w=>known_stepK (X:=Tryz.prog) (o:=(cOps kSel).getD 3 default) (v:=.bool true) (by rfl) (by rfl) (fun w=>by
  simp[go_sem,execOp,evalKc,e13',cOps,kSel,cHd,cTl,cIn,kLoop,bK,Tryz.f47]) false _ w)
 change CoD Tryz.prog Inb J n j (fK dK [closeD (.chan (some k3))] (putT (putT (putT dt (some 13) (.int .i64 1)) (some 14) (.bool false)) (some 15) (.bool true)) (selK [])) [bot] u W3 m3 T3 at c3
 obtain⟨dt3,hdt3⟩:∃ x,x=putT (putT (putT dt (some 13) (.int .i64 1)) (some 14) (.bool false)) (some 15) (.bool true):=⟨_,rfl⟩
 have b14:dt3[14]?=some (.bool false):=by
  rw[hdt3,putT_ne (by decide)]
  exact putT_self (by rw[putT_size];omega)
 have b15:dt3[15]?=some (.bool true):=by
  rw[hdt3]
  exact putT_self (by rw[putT_size,putT_size];omega)
 rw[<-hdt3]at c3
 obtain⟨W4,m4,T4,r4,c4,q4⟩:=cod_turn c3 (rf1:=fK dK [closeD (.chan (some k3))] dt3 (.code (cTl (cTl kX)) :: [.inBlock 1,.inLoop kLoop,.inBlock 0])) (rfs1:=[bot]) (fun cs w=>ctl1_stepK (by rfl) _ false _ w)
 obtain⟨W5,m5,T5,r5,c5,q5⟩:=cod_turn c4 (rf1:=fK dK [closeD (.chan (some k3))] dt3 (.code kCond :: kTail)) (rfs1:=[bot]) (fun cs w=>ctl1_stepK (by rfl) _ false _ w)
 obtain⟨W6,m6,T6,r6,c6,q6⟩:=cod_turn c5 (rf1:=fK dK [closeD (.chan (some k3))] dt3 (.code (.cond (.tmp 15) .ret .skip) :: kTail)) (rfs1:=[bot]) (fun cs w=>cond_stepK (o:=.tmp 14) (a:=kArm) (b:=.cond (.tmp 15) .ret .skip) (v:=false) (evalK b14) _ false _ w)
 obtain⟨W7,m7,T7,r7,c7,q7⟩:=cod_turn c6 (rf1:=fK dK [closeD (.chan (some k3))] dt3 (.code .ret :: kTail)) (rfs1:=[bot]) (fun cs w=>cond_stepK (o:=.tmp 15) (a:=.ret) (b:=.skip) (v:=true) (evalK b15) _ false _ w)
 obtain⟨W8,m8,T8,r8,c8,q8⟩:=cod_turn c7 (rf1:=kRet [closeD (.chan (some k3))] dt3 (.code .ret :: kTail)) (rfs1:=[bot]) (fun cs w=>ret_stepK w)
 have kp:=((((((q1.trans (fun _ h=>h) q2).trans (fun _ h=>h) q3).trans (fun _ h=>h) q4).trans (fun _ h=>h) q5).trans (fun _ h=>h) q6).trans (fun _ h=>h) q7).trans (fun _ h=>h) q8
 obtain⟨W9,m9,T9,r9,c9,⟨k1,k2,k3'⟩⟩:=cod_close c8 hn (fun w cap a hc=>close_stepK w cap a hc) close_wakeK h0 hjI (kk:=0) (z:=.agg #[]) (by rfl) (opn_kp hin kp hJ) (k_quits _ _) (af:=fD dD rtx [.inRegion ops16 [1],.code (cTl (cTl dR8))]) (afs:=c' :: rs) (fun g hg=>hg)
 have hres:commResult (seatE k3 rtx c' rs).cases (seatE k3 rtx c' rs).shape ((0:Nat):Int) (.agg #[]) false=.agg #[]:=commResult_one _ _ _ _ _ _
 have hfin:(fD dD rtx [.inRegion ops16 [1],.code (cTl (cTl dR8))]).finish (.agg #[])=fD dD (putT rtx (some 51) (.agg #[])) [.inRegion ops16 [],.code (cTl (cTl dR8))]:=fD_finish (o:=ops16.getD 1 default) (by rfl) _
 rw[hres,hfin]at c9
 exact⟨W9,m9,T9,(((((((r1.trans r2).trans r3).trans r4).trans r5).trans r6).trans r7).trans r8).trans r9,c9,k1.trans kp.os,k2.trans kp.output,fun x hx hne=>(k3' x hne).trans (kp.block x hx)⟩
noncomputable def dRet(t:Array Value)(k:List Item):Frame:={fD dD t k with mode:=.returning}
theorem ret_stepD{X:Program}{t:Array Value}{k:List Item}{cs:List Frame}(w:World):stepG X true (mkG (fD dD t (.code .ret :: k)) cs) w=.go (mkG (dRet t (.code .ret :: k)) cs) w #[]:=by rfl
theorem pop_stepD{X:Program}{fn:Func}(hf:X.funcs[dD]?=some fn)(hr:fn.results=#[.tmp 4]){t:Array Value}{k:List Item}{c:Frame}{cs:List Frame}(w:World):stepG X true (mkG (dRet t k) (c :: cs)) w=.go (mkG (c.finish (t.getD 4 undef)) cs) w #[]:=by
 have hu:stepG X true (mkG (dRet t k) (c :: cs)) w=unwind X true (dRet t k) (c :: cs) none w:=by rfl
 have hrs:(results fn t).runT X w #[]=(.ok (t.getD 4 undef) w,#[]):=by simp[results,hr]
 rw[hu,unwind]
 have h1:(dRet t k).defers=[]:=rfl
 have h2:(dRet t k).mode=.returning:=rfl
 have h3:(dRet t k).fn=dD:=rfl
 have h4:(dRet t k).tmps=t:=rfl
 have h5:(dRet t k).kind=.normal:=rfl
 simp only[h1,h2,h3,h4,hf,hrs,doReturn,h5]
 rfl
end
section
variable {f:FuncId} {Post:Value->World->Prop} {c c':Frame} {gs rs:List Frame} {Inb0 Inb:Nat->Option Seat} {J0:Nat->Prop} {s s':Pt} {k1 k2 k3 k4 j:Nat} {rt dt:Array Value}
theorem gM_D:(ofF gP (maskF gP gE)).funcs[dD]?=some gfn:=by
 show (maskF gP gE)[dD]?=_
 rw[maskF_get,gP_D,Option.map_some,if_pos gfn_ok]
theorem inb_end(h0:Inb0 0=none)(hj:Inb0 j=none)(hj0:j≠0)(s0:Seat)(dt:Array Value):upd (upd (upd (inbL Inb0 k1 k2 k3 j dt) 0 (some s0)) j none) 0 none=Inb0:=by
 funext x
 unfold inbL
 by_cases e:x=0
 ·subst e;rw[upd_same];exact h0.symm
 ·rw[upd_ne _ _ e]
  by_cases e2:x=j
  ·subst e2;rw[upd_same];exact hj.symm
  ·rw[upd_ne _ _ e2,upd_ne _ _ e,upd_ne _ _ e2]
theorem drive_close(hE:Ext gP gE)(h:s.Ok gP Tryz.prog.funcs gE dD f Post c c' gs rs (inbL Inb0 k1 k2 k3 j dt))(ih:Fwd gP Tryz.prog.funcs gE dD f Post c gs s)(hl:Lp Inb0 J0 s.rt s k1 k2 k3 k4 j dt)(hg:s.gk=[.code (gh dR8)])(hr:s.rk=[.code dR8]):
  ∃ v u' J' n' W' m' T',Ltr gP gE (fD dD s.gt s.gk) (c :: gs) s.u (c.finish v) gs u'/\Inev gP gE f Post (c.finish v) gs u'/\Rch Tryz.prog s.m s.T m' T'/\Co Tryz.prog Inb0 J' n' (c'.finish v) rs u' W' m' T'/\(∀ k,s.J k->J' k)/\s.n<=n'/\Kp J0 s.W W':=by
 obtain⟨n1,n2,n3,n4,n5,n6⟩:=hl.ne
 obtain⟨s1,h1,w1,g1,r1,l1⟩:=lp_turns 2 2 (gk:=[.inRegion gops15 [0,1],.code (gh (cTl dR8))]) (rk:=[.inRegion ops15 [0,1],.code (cTl dR8)]) h hl (by rw[hg];rfl) (by rw[hr];rfl)
 have r6:s1.rt[6]?=some (.chan (some k2)):=(l1.two.eq 6 (by decide)).symm.trans l1.g6
 obtain⟨s2,h2,w2,g2,r2,l2,t2,q2⟩:=lp_known h1 l1 49 (v:=.chan (some k2)) g1 r1 (o:=gops15.getD 0 default) (o':=ops15.getD 0 default) (by rfl) (by rfl) (by rfl) (by rfl) (by decide) (by rfl) (by rfl) (by
  have e:(fD dD s1.gt []).eval (.tmp 6)=_:=evalD l1.g6
  rw[<-e];rfl) (by
  have e:(fD dD s1.rt []).eval (.tmp 6)=_:=evalD r6
  rw[<-e];rfl)
 have w02:=w1.trans w2
 have b49:s2.rt[49]?=some (.chan (some k2)):=by
  rw[q2]
  exact putT_self (by have:=l1.two.rsz;omega)
 obtain⟨h3,w3⟩:=gh_pure h2 g2 (o:=gops15.getD 1 default) (v:=(fD dD s2.gt []).eval (.tmp 49)) (by rfl) (by rfl) (by rfl)
 obtain⟨h4,w4⟩:=gh_turns 3 (gk:=[.inRegion gops16 [0,1],.code (gh (cTl (cTl dR8)))]) h3 (by rfl)
 have e7:(fD dD s2.gt []).eval (.tmp 7)=_:=evalD l2.g7
 obtain⟨h5,w5⟩:=gh_pure h4 (o:=gops16.getD 0 default) (v:=.chan (some k3)) (by rfl) (by rfl) (by rfl) (by
  have e:(fD dD s2.gt []).eval (.tmp 7)=_:=e7
  rw[<-e];rfl)
 obtain⟨h6,w6⟩:=gh_pure h5 (o:=gops16.getD 1 default) (v:=.agg #[]) (by rfl) (by rfl) (by rfl) (by rfl)
 have w36:=((w3.trans w4).trans w5).trans w6
 have hc:=h2.co
 rw[r2]at hc
 have r7:s2.rt[7]?=some (.chan (some k3)):=(l2.two.eq 7 (by decide)).symm.trans l2.g7
 have hj:inbL Inb0 k1 k2 k3 j dt j=some (seatD k1 k2 k3 dt):=upd_same _ _ _
 obtain⟨W7,m7,T7,x1,x2,⟨x3,x4,x5⟩⟩:=co_close hc (fun w cap a hc=>close_step b49 w cap a hc) close_wake hj hl.j0 l2.jn (kk:=1) (z:=.agg #[]) (by rfl) l2.o2 (seatE k3 (rtE s2.rt k3) c' rs) (Seat.one_wf _ _ _ _) (fun x s' y hx e hy hn=>by
   have hn:=Seat.one_has.1 hn
   subst hn
   by_cases ex:x=j
   ·subst ex
    rw[hj]at e
    obtain rfl:=Option.some.inj e
    rcases seatD_has hy with e | e
    ·exact n2 e.symm
    ·exact n4 e.symm
   ·rw[inbL,upd_ne _ _ ex]at e
    exact hl.n3 (hl.fresh _ _ _ e hy)) (fun y hy=>by
   have hy:=Seat.one_has.1 hy
   subst hy
   exact⟨l2.J3,l2.o3⟩) (fun B=>sits_of (toE (rs:=rs) (c':=c') r7) (atE l2.two.rsz B)) (df:=fK dK [closeD (.chan (some k3))] dt (selK [0,1,2,3])) (bs:=[bot]) (fun g hg=>hg)
 have hres:commResult (seatD k1 k2 k3 dt).cases (seatD k1 k2 k3 dt).shape ((1:Nat):Int) (.agg #[]) false=.tuple #[.int .i64 1,.bool false,.agg #[.int .i64 0,.chan none],.agg #[]]:=by
  simp[seatD,commResult,rcase,List.zipIdx_cons]
  rfl
 have hfin:(fK dK [closeD (.chan (some k3))] dt (selK [0,1,2,3])).finish (.tuple #[.int .i64 1,.bool false,.agg #[.int .i64 0,.chan none],.agg #[]])=fK dK [closeD (.chan (some k3))] (putT dt (some 12) (.tuple #[.int .i64 1,.bool false,.agg #[.int .i64 0,.chan none],.agg #[]])) (selK [1,2,3]):=fK_finish (ops:=cOps kSel) (o:=(cOps kSel).getD 0 default) (by rfl) _
 rw[hres,hfin]at x2
 have hin3:Opn W7 k3:=by
  obtain⟨a,ha⟩:=l2.o3
  exact⟨a,(x5 k3 (Ne.symm n4)).trans ha⟩
 obtain⟨W8,m8,T8,y1,y2,⟨y3,y4,y5⟩⟩:=disk_ends (c':=c') (rs:=rs) (k3:=k3) (rtx:=rtE s2.rt k3) x2 (by have:=l2.jn;omega) (by rw[putT_size];exact hl.ex.dsz) (putT_self (by rw[hl.ex.dsz];decide)) (by rw[upd_ne _ _ (Ne.symm hl.j0),upd_same]) (upd_same _ _ _) hin3 l2.J3
 rw[inb_end hl.z0 hl.in0 hl.j0]at y2
 have hkp:Kp J0 s2.W W8:=⟨y3.trans x3,y4.trans x4,fun k hk=>(y5 k (l2.sub k hk) fun e=>hl.n3 (e ▸ hk)).trans (x5 k fun e=>hl.n2 (e ▸ hk))⟩
 obtain⟨s8,hs8⟩:∃ s8:Pt,s8=⟨[.inRegion gops16 [],.code (gh (cTl (cTl dR8)))],[.inRegion ops16 [],.code (cTl (cTl dR8))],putT (putT s2.gt (some 50) (.chan (some k3))) (some 51) (.agg #[]),putT (rtE s2.rt k3) (some 51) (.agg #[]),s2.u,W8,m8,T8,s2.J,s2.n⟩:=⟨_,rfl⟩
 have h8:s8.Ok gP Tryz.prog.funcs gE dD f Post c c' gs rs Inb0:=by
  rw[hs8]
  exact⟨h6.inev,y2⟩
 have w8:Way gP Tryz.prog.funcs gE dD c gs J0 s2 s8:=by
  rw[hs8]
  exact⟨w36.ltr,x1.trans y1,fun _ h=>h,Nat.le_refl _,hkp⟩
 have t8:Two s8.rt s8.gt:=by
  rw[hs8]
  exact (l2.two.put (d:=some 50) (fun x hx=>by cases hx;decide) _).put (d:=some 51) (fun x hx=>by cases hx;decide) _
 have w08:=w02.trans w8
 obtain⟨W9,m9,T9,h9,w9⟩:=turns 2 2 (gk:=[.code (gh (cHd (cTl (cTl dR8)))),.code (gh (cTl (cTl (cTl dR8))))]) (rk:=[.code (cHd (cTl (cTl dR8))),.code (cTl (cTl (cTl dR8)))]) h8 (by rw[hs8];rfl) (by rw[hs8];rfl)
 have hJ8:∀ k,J0 k->s8.J k:=fun k hk=>by rw[hs8];exact l2.sub k hk
 have w09:=w08.trans (w9.weak hJ8)
 obtain⟨s10,h10,w10,g10,r10,t10,_⟩:=region_both hE alike [] h9 (ih.way w09) (id:=17) (id':=17) (ops:=cOps (cHd (cTl (cTl dR8)))) (kg:=[.code .ret]) (kr:=[.code .ret]) (by rfl) (by rfl) (by kernel_rfl) t8
 have w010:=w09.trans (w10.weak hJ8)
 have hi:=h10.inev
 have hco:=h10.co
 rw[g10]at hi
 rw[r10]at hco
 obtain⟨z1,i1⟩:=hi.turn fD_runs (fun cs w=>ret_stepD w)
 obtain⟨W11,m11,T11,v1,v2,v3⟩:=co_turn hco (fun cs w=>ret_stepD w)
 obtain⟨z2,i2⟩:=i1.turn (fr1:=c.finish (s10.gt.getD 4 undef)) (frs1:=gs) (fun h=>by cases h.1) (fun cs w=>pop_stepD gM_D (by rfl) w)
 obtain⟨W12,m12,T12,v4,v5,v6⟩:=co_turn v2 (rf1:=c'.finish (s10.rt.getD 4 undef)) (rfs1:=rs) (fun cs w=>pop_stepD Tryz.func26 (by rfl) w)
 have hv:s10.rt.getD 4 undef=s10.gt.getD 4 undef:=by
  rw[Array.getD_eq_getD_getElem?,Array.getD_eq_getD_getElem?,t10.eq 4 (by decide)]
 rw[hv]at v5
 have hL:Ltr gP gE (fD dD s10.gt s10.gk) (c :: gs) s10.u (c.finish (s10.gt.getD 4 undef)) gs s10.u:=by
  rw[g10]
  exact (Ltr.one z1).trans (.one z2)
 have hLs:Ltr gP gE (fD dD s.gt s.gk) (c :: gs) s.u (c.finish (s10.gt.getD 4 undef)) gs s10.u:=by
  rcases w010.ltr with ⟨a1,a2,a3⟩ | hl
  ·rw[a1,a2,a3]at hL
   rw[a1]
   rw[a3]
   exact hL
  ·exact hl.trans hL
 exact⟨_,s10.u,s10.J,s10.n,W12,m12,T12,hLs,i2,(w010.rch.trans v1).trans v4,v5,w010.sub,w010.le,(w010.kp.trans (fun k hk=>w010.sub k (hl.sub k hk)) v3).trans (fun k hk=>w010.sub k (hl.sub k hk)) v6⟩
end
section
variable {f:FuncId} {Post:Value->World->Prop} {c c':Frame} {gs rs:List Frame} {Inb0 Inb:Nat->Option Seat} {J0:Nat->Prop} {s s':Pt} {k1 k2 k3 k4 j:Nat} {rt dt:Array Value}
theorem clear_at{i:Nat}(hi:i<17):gh0[i]?=some {dst:=some (clr.getD i 0),op:=.move (.const undef),type:=0,pos:= "",after:=#[],guard:=none}:=by
 have hl:clr[i]?=some (clr.getD i 0):=by
  rw[List.getD_eq_getElem?_getD,List.getElem?_eq_getElem (by simpa[clr]using hi)]
  rfl
 unfold gh0
 rw[List.getElem?_toArray,List.getElem?_map,hl]
 rfl
theorem gh_clear{kg:List Item}:∀ (l:List Nat) {s:Pt},s.Ok gP Tryz.prog.funcs gE dD f Post c c' gs rs Inb->s.gk=.inRegion gh0 l :: kg->(∀ i∈l,i<17)->Two s.rt s.gt->
  ∃ gt',Pt.Ok gP Tryz.prog.funcs gE dD f Post c c' gs rs Inb {s with gk:=.inRegion gh0 [] :: kg,gt:=gt'}/\Way gP Tryz.prog.funcs gE dD c gs s.J s {s with gk:=.inRegion gh0 [] :: kg,gt:=gt'}/\Two s.rt gt'/\∀ p,(s.gt[p]?=some undef\/∃ i∈l,clr.getD i 0=p)->gt'[p]?=some undef
 | [],s,h,hg,_,h2=>by
   refine⟨s.gt,?_,?_,h2,fun p hp=>hp.elim id fun ⟨_,h,_⟩=>by cases h⟩
   ·rw[<-hg];exact h
   ·rw[<-hg];exact .refl _
 | i :: l,s,h,hg,hl,h2=>by
   have hi:=hl i List.mem_cons_self
   obtain⟨h1,w1⟩:=gh_pure h hg (v:=undef) (clear_at hi) (by rfl) (by rfl)
   have hd:53<=clr.getD i 0/\clr.getD i 0<84:=by
    have:∀ i,i<17->53<=clr.getD i 0/\clr.getD i 0<84:=by decide
    exact this i hi
   obtain⟨gt',h3,w3,t3,p3⟩:=gh_clear l h1 rfl (fun k hk=>hl k (List.mem_cons_of_mem _ hk)) (h2.own hd.1 undef)
   refine⟨gt',h3,w1.trans w3,t3,fun p hp=>p3 p ?_⟩
   by_cases e:clr.getD i 0=p
   ·subst e
    exact .inl (putT_self (by have:=h2.gsz;omega))
   ·rcases hp with hp |⟨k,hk,he⟩
    ·exact .inl ((putT_ne (fun e2=>e (Option.some.inj e2))).trans hp)
    ·rcases List.mem_cons.1 hk with rfl | hk
     ·exact absurd he e
     ·exact .inr ⟨k,hk,he⟩
theorem both_move(h:s.Ok gP Tryz.prog.funcs gE dD f Post c c' gs rs Inb)(h2:Two s.rt s.gt){ops ops':Array Oper}{i:Nat}{rest:List Nat}{kg kr:List Item}{o:Oper}{v:Value}(d:Nat)(hg:s.gk=.inRegion ops (i :: rest) :: kg)(hr:s.rk=.inRegion ops' (i :: rest) :: kr)(ho:ops[i]?=some o)(ho':ops'[i]?=some o)(hd:o.dst=some d)(hlt:d<53)(hw:o.guard.isNone=true)(hv:execOp (fD dD s.gt []).eval o=pure (.value v))(hv':execOp (fD dD s.rt []).eval o=pure (.value v)):
  ∃ s':Pt,s'.Ok gP Tryz.prog.funcs gE dD f Post c c' gs rs Inb/\Way gP Tryz.prog.funcs gE dD c gs s.J s s'/\s'.gk=.inRegion ops rest :: kg/\s'.rk=.inRegion ops' rest :: kr/\Two s'.rt s'.gt/\s'.gt=putT s.gt (some d) v/\s'.rt=putT s.rt (some d) v/\s'.u=s.u/\s'.J=s.J/\s'.n=s.n:=by
 obtain⟨W,m,T,h1,w1⟩:=both_pure h hg ho (wanted_none hw _) hv hr ho' (wanted_none hw _) hv'
 rw[hd]at h1 w1
 exact⟨_,h1,w1,rfl,rfl,h2.put (d:=some d) (fun x hx=>by cases hx;exact hlt) v,rfl,rfl,rfl,rfl,rfl⟩
theorem mk_region(hE:Ext gP gE)(h:s.Ok gP Tryz.prog.funcs gE dD f Post c c' gs rs Inb)(ih:Fwd gP Tryz.prog.funcs gE dD f Post c gs s)(h2:Two s.rt s.gt){id id':Nat}{ops:Array Oper}{kg kr:List Item}(hg:s.gk=.code (.region id ops false) :: kg)(hr:s.rk=.code (.region id' ops false) :: kr)(a b:Nat){t:TypeId}{o1 o2:Oper}(hz:List.range ops.size=[0,1])(ho1:ops[0]?=some o1)(ho2:ops[1]?=some o2)
  (hd1:o1.dst=some a) (hp1:o1.op=.makeChan t (.const (.int .i64 0))) (hg1:o1.guard.isNone=true) (hd2:o2.dst=some b) (hp2:o2.op=.assign (.tmp a)) (hg2:o2.guard.isNone=true) (ha:a<53) (hb:b<53):
  ∃ s':Pt,s'.Ok gP Tryz.prog.funcs gE dD f Post c c' gs rs Inb/\Way gP Tryz.prog.funcs gE dD c gs s.J s s'/\s'.gk=kg/\s'.rk=kr/\Two s'.rt s'.gt/\s'.gt[b]?=some (.chan (some s.u.heap.size))/\¬s.J s.u.heap.size/\s'.J s.u.heap.size/\Opn s'.W s.u.heap.size/\(∀ p,p≠a->p≠b->s'.gt[p]?=s.gt[p]?)/\s'.n=s.n:=by
 obtain⟨W,m,T,h1,w1⟩:=turns 1 1 (gk:=.inRegion ops [0,1] :: kg) (rk:=.inRegion ops [0,1] :: kr) h (by rw[hg,<-hz];rfl) (by rw[hr,<-hz];rfl)
 obtain⟨u',W2,m2,T2,h3,w3,hn,hk⟩:=op_mk hE alike h1 (ih.way w1) rfl rfl ho1 ho1 hp1 hg1
 rw[hd1]at h3 w3
 have hn:¬s.J s.u.heap.size:=hn
 have hk:W2.heap[s.u.heap.size]?=some Jk:=hk
 have t3:Two (putT s.rt (some a) (.chan (some s.u.heap.size))) (putT s.gt (some a) (.chan (some s.u.heap.size))):=h2.put (d:=some a) (fun x hx=>by cases hx;exact ha) _
 have ega:(fD dD (putT s.gt (some a) (.chan (some s.u.heap.size))) []).eval (.tmp a)=_:=evalD (putT_self (by have:=h2.gsz;omega))
 have era:(fD dD (putT s.rt (some a) (.chan (some s.u.heap.size))) []).eval (.tmp a)=_:=evalD (putT_self (by have:=h2.rsz;omega))
 have hx:∀ t':Array Value,execOp (fD dD t' []).eval o2=pure (.value ((fD dD t' []).eval (.tmp a))):=fun t'=>by unfold execOp;rw[hp2]
 obtain⟨s4,h4,w4,g4,r4,t4,e4,q4,u4,j4,n4⟩:=both_move (v:=.chan (some s.u.heap.size)) h3 t3 b rfl rfl ho2 ho2 hd2 hb hg2 (by have h:=hx (putT s.gt (some a) (.chan (some s.u.heap.size)));rw[ega]at h;exact h) (by have h:=hx (putT s.rt (some a) (.chan (some s.u.heap.size)));rw[era]at h;exact h)
 obtain⟨W5,m5,T5,h5,w5⟩:=turns 1 1 (gk:=kg) (rk:=kr) h4 (by rw[g4];rfl) (by rw[r4];rfl)
 have hJ4:∀ k,s.J k->s4.J k:=fun k hk=>by rw[j4];exact .inl hk
 have hin:s4.J s.u.heap.size:=by rw[j4];exact .inr rfl
 refine⟨_,h5,((w1.trans w3).trans (w4.weak fun k hk=>.inl hk)).trans (w5.weak hJ4),rfl,rfl,t4,?_,hn,hin,?_,fun p h1 h2=>?_,n4⟩
 ·show s4.gt[b]?=_
  rw[e4]
  exact putT_self (Nat.lt_of_lt_of_le hb (Nat.le_trans (by decide) t3.gsz))
 ·have o2:Opn W2 s.u.heap.size:=⟨0,hk⟩
  have o4:=opn_kp o2 w4.kp (.inr rfl)
  exact opn_kp o4 w5.kp hin
 ·show s4.gt[p]?=_
  rw[e4,putT_ne (fun e=>h2 (Option.some.inj e).symm),putT_ne (fun e=>h1 (Option.some.inj e).symm)]
theorem co_pos{R:Program}{J:Nat->Prop}{n:Nat}{rf:Frame}{rfs:List Frame}{u W:World}{m:Machine}{T:Trace}(h:Co R Inb J n rf rfs u W m T):0<n:=by
 obtain⟨gs,sl,q,B,rfl,hsz,hg,hR⟩:=h.ex
 have:=(Array.getElem?_eq_some_iff.1 hg).1
 omega
noncomputable def ops4:Array Oper:=cOps (cHd (cTs 4 bD))
noncomputable def gops4:Array Oper:=mapA ghOp ops4
theorem go_step{rt:Array Value}{v:Value}{k1 k2 k3:Nat}{k:List Item}{cs:List Frame}(h16:rt[16]?=some v)(h17:rt[17]?=some (.chan (some k1)))(h18:rt[18]?=some (.chan (some k2)))(h19:rt[19]?=some (.chan (some k3)))(w:World):
  stepG Tryz.prog true (mkG (fD dD rt (.inRegion ops4 [5] :: k)) cs) w=.spawn (mkG (fD dD rt (.inRegion ops4 [] :: k)) cs) (born Tryz.prog (callK v (.chan (some k1)) (.chan (some k2)) (.chan (some k3)))) w #[]:=by
 have e16:=actE (ds:=[]) h16
 have e17:=actE (ds:=[]) h17
 have e18:=actE (ds:=[]) h18
 have e19:=actE (ds:=[]) h19
 have evf:(⟨rt,[]⟩:Act).eval (.func dK)=.func (.func dK) #[] #[]:=rfl
 have hr:∀ w,(execOp (⟨rt,[]⟩:Act).eval (ops4.getD 5 default)).run Tryz.prog w=.ok (.spawn (callK v (.chan (some k1)) (.chan (some k2)) (.chan (some k3)))) w:=fun w=>by
  simp[go_sem,execOp,resolve,Deferred.ofValue,callK,e16,e17,e18,e19,h16,h17,h18,h19,evf,ops4,cTs,cOps,cHd,cTl,bD,Tryz.f26]
 have he:∀ w,(execOp (⟨rt,[]⟩:Act).eval (ops4.getD 5 default)).events Tryz.prog w #[]=#[]:=fun w=>by
  simp[go_sem,execOp,resolve,Deferred.ofValue,callK,e16,e17,e18,e19,h16,h17,h18,h19,evf,ops4,cTs,cOps,cHd,cTl,bD,Tryz.f26]
 have:=stepG_spawn (P:=Tryz.prog) (main:=true) (b:=fD dD #[] []) (a:=⟨rt,[]⟩) (k:=k) (cs:=cs) (ops:=ops4) (i:=5) (rest:=[]) (o:=ops4.getD 5 default) (d:=callK v (.chan (some k1)) (.chan (some k2)) (.chan (some k3))) (f:=.func dK) (c:=#[]) (by rfl) (by rfl) (fun h=>by cases h) (hr w) rfl
 rw[listed_none (he w)]at this
 exact this
end
end
section
open Go Go.Conc Go.RowKit
open Go.ConcN (upd upd_same upd_ne)
set_option maxHeartbeats 8000000
theorem pad_at(args:Array Value)(n i:Nat)(hi:i<n):(args ++ Array.replicate (n - args.size) undef)[i]?=if h:i<args.size then some args[i]else some undef:=by
 rw[Array.getElem?_append]
 split
 ·rename_i h
  exact Array.getElem?_eq_getElem h
 ·rename_i h
  rw[Array.getElem?_replicate,if_pos (by omega)]
theorem two_start(args:Array Value):Two (args ++ Array.replicate (53 - args.size) undef) (args ++ Array.replicate (84 - args.size) undef):=by
 refine⟨by simp;omega,by simp;omega,fun i hi=>?_⟩
 rw[pad_at args 53 i hi,pad_at args 84 i (by omega)]
theorem enter_g(args:Array Value):Frame.enter gP dD args .normal=fD dD (args ++ Array.replicate (84 - args.size) undef) [.code gD]:=by
 unfold Frame.enter
 rw[gP_D]
 rfl
theorem enter_r(args:Array Value):Frame.enter Tryz.prog dD args .normal=fD dD (args ++ Array.replicate (53 - args.size) undef) [.code bD]:=by
 unfold Frame.enter
 rw[Tryz.func26]
 rfl
section
variable {f:FuncId} {Post:Value->World->Prop}
theorem ex_start{gt:Array Value}{v:Value}{k1 k2 k3:Nat}(hsz:84<=gt.size)(h53:gt[53]?=some v)(hc:∀ p,(∃ i,i<17/\clr.getD i 0=p)->p≠53->gt[p]?=some undef):Ex gt (dt0 v k1 k2 k3):=by
 obtain⟨d0,d1,d2,d3,dz⟩:=dt00_at v (.chan (some k1)) (.chan (some k2)) (.chan (some k3))
 refine⟨hsz,by unfold dt0;rw[putT_size,putT_size,putT_size];exact dz,fun k hk=>?_⟩
 have hlt:=inS_lt hk
 have hne:(dt0 v k1 k2 k3)[k]?=(dt00 v (.chan (some k1)) (.chan (some k2)) (.chan (some k3)))[k]?:=by
  unfold dt0
  rw[putT_ne (fun e=>by cases e;cases hk),putT_ne (fun e=>by cases e;cases hk),putT_ne (fun e=>by cases e;cases hk)]
 rw[hne]
 by_cases h0:k=0
 ·subst h0;rw[d0];exact h53
 ·have hu:(dt00 v (.chan (some k1)) (.chan (some k2)) (.chan (some k3)))[k]?=some undef:=by
   have h4:4<=k:=by
    simp only[inS,Bool.or_eq_true,beq_iff_eq,Bool.and_eq_true,decide_eq_true_eq]at hk
    omega
   unfold dt00
   rw[Array.getElem?_append,if_neg (by simp;omega),Array.getElem?_replicate,if_pos (by simp;omega)]
  rw[hu]
  refine hc _ ?_ (by omega)
  have:∀ k,k<31->inS k=true->k≠0->∃ i,i<17/\clr.getD i 0=k+53:=by decide
  exact this k hlt hk h0
theorem drive_fw(hE:Ext gP gE):DriveFw gP Tryz.prog.funcs gE dD f Post:=by
 intro args c gs u hI ih c' rs Inb J n W m T hC
 rw[enter_g]at hI ih ⊢
 have hC:Co Tryz.prog Inb J n (Frame.enter Tryz.prog dD args .normal) (c' :: rs) u W m T:=hC
 rw[enter_r]at hC
 obtain⟨s0,hs0⟩:∃ s0:Pt,s0=⟨[.code gD],[.code bD],args ++ Array.replicate (84 - args.size) undef,args ++ Array.replicate (53 - args.size) undef,u,W,m,T,J,n⟩:=⟨_,rfl⟩
 have hn0:=co_pos hC
 have h0:s0.Ok gP Tryz.prog.funcs gE dD f Post c c' gs rs Inb:=by rw[hs0];exact⟨hI,hC⟩
 have i0:Fwd gP Tryz.prog.funcs gE dD f Post c gs s0:=by rw[hs0];exact ih
 have t0:Two s0.rt s0.gt:=by rw[hs0];exact two_start args
 have goal:∃ v u' J' n' W' m' T',Ltr gP gE (fD dD s0.gt s0.gk) (c :: gs) s0.u (c.finish v) gs u'/\Inev gP gE f Post (c.finish v) gs u'/\Rch Tryz.prog s0.m s0.T m' T'/\Co Tryz.prog Inb J' n' (c'.finish v) rs u' W' m' T'/\(∀ k,s0.J k->J' k)/\s0.n<=n'/\Kp s0.J s0.W W':=by
  have hg0:s0.gk=[.code gD]:=by rw[hs0]
  have hr0:s0.rk=[.code bD]:=by rw[hs0]
  have hp0:0<s0.n:=by rw[hs0];exact hn0
  clear hs0 hI ih hC hn0
  obtain⟨h1,w1⟩:=gh_turns 2 (gk:=.inRegion gh0 (List.range 17) :: .code (gh bD) :: []) h0 (by rw[hg0];rfl)
  obtain⟨gt2,h2,w2,t2,p2⟩:=gh_clear (List.range 17) h1 rfl (fun i hi=>by simpa using hi) t0
  have w02:=w1.trans w2
  obtain⟨W3,m3,T3,h3,w3⟩:=turns 2 1 (gk:=.code (gh (cHd bD)) :: .code (gh (cTl bD)) :: []) (rk:=.code (cHd bD) :: .code (cTl bD) :: []) h2 (by rfl) (by show ctlN 1 s0.rk=_;rw[hr0];rfl)
  have w03:=w02.trans w3
  have c2:∀ p,(∃ i,i<17/\clr.getD i 0=p)->gt2[p]?=some undef:=fun p ⟨i,hi,e⟩=>p2 p (.inr ⟨i,by simpa using hi,e⟩)
  have hc53:∀ p,(∃ i,i<17/\clr.getD i 0=p)->53<=p:=fun p ⟨i,hi,e⟩=>by
   have:∀ i,i<17->53<=clr.getD i 0:=by decide
   rw[<-e];exact this i hi
  obtain⟨s4,h4,w4,g4,r4,t4,p4⟩:=region_both hE alike [] h3 (i0.way w03) (id:=0) (id':=0) (ops:=cOps (cHd bD)) (kg:=.code (gh (cTl bD)) :: []) (kr:=.code (cTl bD) :: []) (by rfl) (by rfl) (by kernel_rfl) t2
  have w04:=w03.trans w4
  obtain⟨W5,m5,T5,h5,w5⟩:=turns 1 1 (gk:=.code (gh (cHd (cTs 1 bD))) :: .code (gh (cTs 2 bD)) :: []) (rk:=.code (cHd (cTs 1 bD)) :: .code (cTs 2 bD) :: []) h4 (by rw[g4];rfl) (by rw[r4];rfl)
  have w05:=w04.trans (w5.weak w4.sub)
  obtain⟨s6,h6,w6,g6,r6,t6,b6,n6,j6,o6,p6,z6⟩:=mk_region hE h5 (i0.way w05) t4 (id:=1) (id':=1) (ops:=cOps (cHd (cTs 1 bD))) (kg:=.code (gh (cTs 2 bD)) :: []) (kr:=.code (cTs 2 bD) :: []) (by rfl) (by rfl) 12 5 (o1:=(cOps (cHd (cTs 1 bD))).getD 0 default) (o2:=(cOps (cHd (cTs 1 bD))).getD 1 default) (by rfl) (by rfl) (by rfl) (by rfl) (by rfl) (by rfl) (by rfl) (by rfl) (by rfl) (by decide) (by decide)
  have w06:=w05.trans (w6.weak w4.sub)
  obtain⟨k1,hk1⟩:∃ k1,k1=s4.u.heap.size:=⟨_,rfl⟩
  change s6.gt[5]?=some (.chan (some s4.u.heap.size))at b6
  change ¬s4.J s4.u.heap.size at n6
  change s6.J s4.u.heap.size at j6
  change Opn s6.W s4.u.heap.size at o6
  rw[<-hk1]at b6 n6 j6 o6
  obtain⟨W7,m7,T7,h7,w7⟩:=turns 1 1 (gk:=.code (gh (cHd (cTs 2 bD))) :: .code (gh (cTs 3 bD)) :: []) (rk:=.code (cHd (cTs 2 bD)) :: .code (cTs 3 bD) :: []) h6 (by rw[g6];rfl) (by rw[r6];rfl)
  have w07:=w06.trans (w7.weak w06.sub)
  obtain⟨s8,h8,w8,g8,r8,t8,b8,n8,j8,o8,p8,z8⟩:=mk_region hE h7 (i0.way w07) t6 (id:=2) (id':=2) (ops:=cOps (cHd (cTs 2 bD))) (kg:=.code (gh (cTs 3 bD)) :: []) (kr:=.code (cTs 3 bD) :: []) (by rfl) (by rfl) 13 6 (o1:=(cOps (cHd (cTs 2 bD))).getD 0 default) (o2:=(cOps (cHd (cTs 2 bD))).getD 1 default) (by rfl) (by rfl) (by rfl) (by rfl) (by rfl) (by rfl) (by rfl) (by rfl) (by rfl) (by decide) (by decide)
  have w08:=w07.trans (w8.weak w06.sub)
  obtain⟨k2,hk2⟩:∃ k2,k2=s6.u.heap.size:=⟨_,rfl⟩
  change s8.gt[6]?=some (.chan (some s6.u.heap.size))at b8
  change ¬s6.J s6.u.heap.size at n8
  change s8.J s6.u.heap.size at j8
  change Opn s8.W s6.u.heap.size at o8
  rw[<-hk2]at b8 n8 j8 o8
  obtain⟨W9,m9,T9,h9,w9⟩:=turns 1 1 (gk:=.code (gh (cHd (cTs 3 bD))) :: .code (gh (cTs 4 bD)) :: []) (rk:=.code (cHd (cTs 3 bD)) :: .code (cTs 4 bD) :: []) h8 (by rw[g8];rfl) (by rw[r8];rfl)
  have w09:=w08.trans (w9.weak w08.sub)
  obtain⟨s10,h10,w10,g10,r10,t10,b10,n10,j10,o10,p10,z10⟩:=mk_region hE h9 (i0.way w09) t8 (id:=3) (id':=3) (ops:=cOps (cHd (cTs 3 bD))) (kg:=.code (gh (cTs 4 bD)) :: []) (kr:=.code (cTs 4 bD) :: []) (by rfl) (by rfl) 14 7 (o1:=(cOps (cHd (cTs 3 bD))).getD 0 default) (o2:=(cOps (cHd (cTs 3 bD))).getD 1 default) (by rfl) (by rfl) (by rfl) (by rfl) (by rfl) (by rfl) (by rfl) (by rfl) (by rfl) (by decide) (by decide)
  have w010:=w09.trans (w10.weak w08.sub)
  obtain⟨k3,hk3⟩:∃ k3,k3=s8.u.heap.size:=⟨_,rfl⟩
  change s10.gt[7]?=some (.chan (some s8.u.heap.size))at b10
  change ¬s8.J s8.u.heap.size at n10
  change s10.J s8.u.heap.size at j10
  change Opn s10.W s8.u.heap.size at o10
  rw[<-hk3]at b10 n10 j10 o10
  have p9:∀ p,p≠13->p≠6->s8.gt[p]?=s6.gt[p]?:=p8
  have p11:∀ p,p≠14->p≠7->s10.gt[p]?=s8.gt[p]?:=p10
  have p7:∀ p,p≠12->p≠5->s6.gt[p]?=s4.gt[p]?:=p6
  have a5:s10.gt[5]?=some (.chan (some k1)):=(p11 5 (by decide) (by decide)).trans ((p9 5 (by decide) (by decide)).trans b6)
  have a6:s10.gt[6]?=some (.chan (some k2)):=(p11 6 (by decide) (by decide)).trans b8
  have acl:∀ p,(∃ i,i<17/\clr.getD i 0=p)->s10.gt[p]?=some undef:=fun p hp=>by
   have h53:=hc53 p hp
   exact (p11 p (by omega) (by omega)).trans ((p9 p (by omega) (by omega)).trans ((p7 p (by omega) (by omega)).trans ((p4 p (.inr h53)).trans (c2 p hp))))
  have J8:s8.J k1:=w8.sub _ j6
  have J10:s10.J k1:=w10.sub _ J8
  have J10':s10.J k2:=w10.sub _ j8
  have q8:Opn s8.W k1:=opn_kp (opn_kp o6 w7.kp j6) w8.kp j6
  have q10:Opn s10.W k1:=opn_kp (opn_kp q8 w9.kp J8) w10.kp J8
  have q10':Opn s10.W k2:=opn_kp (opn_kp o8 w9.kp j8) w10.kp j8
  obtain⟨W11,m11,T11,h11,w11⟩:=turns 2 2 (gk:=.inRegion gops4 [0,1,2,3,4,5] :: .code (gh (cTs 5 bD)) :: []) (rk:=.inRegion ops4 [0,1,2,3,4,5] :: .code (cTs 5 bD) :: []) h10 (by rw[g10];rfl) (by rw[r10];rfl)
  have w011:=w010.trans (w11.weak w010.sub)
  obtain⟨s12,h12,w12,g12,r12,t12,p12⟩:=reg_both hE alike (prot:=[5,6,7]) (ops:=gops4) (ops':=ops4) (rest:=[2,3,4,5]) (kg:=.code (gh (cTs 5 bD)) :: []) (kr:=.code (cTs 5 bD) :: []) [0,1] h11 (i0.way w011) (by rfl) (by rfl) (fun i hi=>by
   have:i=0\/i=1:=by simpa using hi
   rcases this with rfl | rfl
   ·exact⟨ops4.getD 0 default,by rfl,by rfl,by kernel_rfl⟩
   ·exact⟨ops4.getD 1 default,by rfl,by rfl,by kernel_rfl⟩) t10
  have p12:∀ p,(p∈[5,6,7]\/53<=p)->s12.gt[p]?=s10.gt[p]?:=p12
  have w012:=w011.trans (w12.weak w010.sub)
  have d5:s12.gt[5]?=some (.chan (some k1)):=(p12 5 (.inl (by decide))).trans a5
  have d6:s12.gt[6]?=some (.chan (some k2)):=(p12 6 (.inl (by decide))).trans a6
  have d7:s12.gt[7]?=some (.chan (some k3)):=(p12 7 (.inl (by decide))).trans b10
  have f5:s12.rt[5]?=some (.chan (some k1)):=(t12.eq 5 (by decide)).symm.trans d5
  obtain⟨s13,h13,w13,g13,r13,t13,e13,q13,u13,jj13,nn13⟩:=both_move (v:=.chan (some k1)) h12 t12 17 g12 r12 (o:=ops4.getD 2 default) (by rfl) (by rfl) (by rfl) (by decide) (by rfl) (by
   have e:(fD dD s12.gt []).eval (.tmp 5)=_:=evalD d5
   rw[<-e];rfl) (by
   have e:(fD dD s12.rt []).eval (.tmp 5)=_:=evalD f5
   rw[<-e];rfl)
  have d6':s13.gt[6]?=some (.chan (some k2)):=by rw[e13,putT_ne (by decide)];exact d6
  have f6':s13.rt[6]?=some (.chan (some k2)):=(t13.eq 6 (by decide)).symm.trans d6'
  obtain⟨s14,h14,w14,g14,r14,t14,e14,q14,u14,jj14,nn14⟩:=both_move (v:=.chan (some k2)) h13 t13 18 g13 r13 (o:=ops4.getD 3 default) (by rfl) (by rfl) (by rfl) (by decide) (by rfl) (by
   have e:(fD dD s13.gt []).eval (.tmp 6)=_:=evalD d6'
   rw[<-e];rfl) (by
   have e:(fD dD s13.rt []).eval (.tmp 6)=_:=evalD f6'
   rw[<-e];rfl)
  have d7':s14.gt[7]?=some (.chan (some k3)):=by rw[e14,putT_ne (by decide),e13,putT_ne (by decide)];exact d7
  have f7':s14.rt[7]?=some (.chan (some k3)):=(t14.eq 7 (by decide)).symm.trans d7'
  obtain⟨s15,h15,w15,g15,r15,t15,e15,q15,u15,jj15,nn15⟩:=both_move (v:=.chan (some k3)) h14 t14 19 g14 r14 (o:=ops4.getD 4 default) (by rfl) (by rfl) (by rfl) (by decide) (by rfl) (by
   have e:(fD dD s14.gt []).eval (.tmp 7)=_:=evalD d7'
   rw[<-e];rfl) (by
   have e:(fD dD s14.rt []).eval (.tmp 7)=_:=evalD f7'
   rw[<-e];rfl)
  have w1215:=(w13.trans (w14.weak fun k hk=>by rw[jj13];exact hk)).trans (w15.weak fun k hk=>by rw[jj14,jj13];exact hk)
  have w015:=w012.trans (w1215.weak w012.sub)
  obtain⟨v,hv⟩:∃ v,s15.gt[16]?=some v:=⟨_,Array.getElem?_eq_getElem (by have:=t15.gsz;omega)⟩
  have v16:s15.rt[16]?=some v:=(t15.eq 16 (by decide)).symm.trans hv
  have v17:s15.rt[17]?=some (.chan (some k1)):=by
   rw[q15,putT_ne (by decide),q14,putT_ne (by decide),q13]
   exact putT_self (by have:=t12.rsz;omega)
  have v18:s15.rt[18]?=some (.chan (some k2)):=by
   rw[q15,putT_ne (by decide),q14]
   exact putT_self (by have:=t13.rsz;omega)
  have v19:s15.rt[19]?=some (.chan (some k3)):=by
   rw[q15]
   exact putT_self (by have:=t14.rsz;omega)
  have pp:∀ p,p≠17->p≠18->p≠19->s15.gt[p]?=s12.gt[p]?:=fun p a b c=>by
   rw[e15,putT_ne (fun e=>c (Option.some.inj e).symm),e14,putT_ne (fun e=>b (Option.some.inj e).symm),e13,putT_ne (fun e=>a (Option.some.inj e).symm)]
  have J12:s12.J k1/\s12.J k2/\s12.J k3:=⟨w12.sub _ (w11.sub _ J10),w12.sub _ (w11.sub _ J10'),w12.sub _ (w11.sub _ j10)⟩
  have J15:s15.J k1/\s15.J k2/\s15.J k3:=⟨w1215.sub _ J12.1,w1215.sub _ J12.2.1,w1215.sub _ J12.2.2⟩
  have kp1015:=(w11.kp.trans (fun _ h=>h) w12.kp).trans (fun k hk=>hk) (w1215.weak (fun k hk=>w12.sub k (w11.sub k hk))).kp
  have o15:Opn s15.W k1/\Opn s15.W k2/\Opn s15.W k3:=⟨opn_kp q10 kp1015 J10,opn_kp q10' kp1015 J10',opn_kp o10 kp1015 j10⟩
  have m1:¬s0.J k1:=fun h=>n6 (w04.sub _ h)
  have m2:¬s0.J k2:=fun h=>n8 (w06.sub _ h)
  have m3:¬s0.J k3:=fun h=>n10 (w08.sub _ h)
  have k12:k1≠k2:=fun e=>n8 (e ▸ j6)
  have k13:k1≠k3:=fun e=>n10 (e ▸ J8)
  have k23:k2≠k3:=fun e=>n10 (e ▸ j8)
  have hseats:∀ x s' y,Inb x=some s'->s'.has y->s0.J y:=fun x s' y e hy=>h0.co.seats x s' y e hy
  obtain⟨h16,w16⟩:=gh_pure h15 g15 (o:=gops4.getD 5 default) (v:=v) (by rfl) (by rfl) (by
   have e:(fD dD s15.gt []).eval (.tmp 16)=_:=evalD hv
   rw[<-e];rfl)
  have hc15:=h15.co
  rw[r15]at hc15
  obtain⟨W17,m17,T17,x1,x2,x3,x4⟩:=co_hire hc15 (fun w=>go_step v16 v17 v18 v19 w) (seatD k1 k2 k3 (dt0 v k1 k2 k3)) (seatD_wf k12) (fun x s' y e hy hn=>by
    have:=hseats x s' y e hy
    rcases seatD_has hn with rfl | rfl
    ·exact m1 this
    ·exact m2 this) (fun y hy=>by
    rcases seatD_has hy with rfl | rfl
    ·exact⟨J15.1,o15.1⟩
    ·exact⟨J15.2.1,o15.2.1⟩) (Nat.ne_of_gt (co_pos hc15)) (fun B=>sits_of (k_birth v k1 k2 k3) (k_at (k1:=k1) (k2:=k2) (by
     unfold dt0
     rw[putT_ne (by decide)]
     exact putT_self (by rw[putT_size,(dt00_at _ _ _ _).2.2.2.2];decide)) (by
     unfold dt0
     exact putT_self (by rw[putT_size,putT_size,(dt00_at _ _ _ _).2.2.2.2];decide)) B))
  obtain⟨s17,hs17⟩:∃ s17:Pt,s17=⟨.inRegion gops4 [] :: .code (gh (cTs 5 bD)) :: [],.inRegion ops4 [] :: .code (cTs 5 bD) :: [],putT s15.gt (some 53) v,s15.rt,s15.u,W17,m17,T17,s15.J,s15.n+1⟩:=⟨_,rfl⟩
  have h17:s17.Ok gP Tryz.prog.funcs gE dD f Post c c' gs rs (inbL Inb k1 k2 k3 s15.n (dt0 v k1 k2 k3)):=by
   rw[hs17]
   exact⟨h16.inev,x2⟩
  have w17:Way gP Tryz.prog.funcs gE dD c gs s15.J s15 s17:=by
   rw[hs17]
   exact⟨w16.ltr,x1,fun _ h=>h,Nat.le_succ _,x3⟩
  have w017:=w015.trans (w17.weak w015.sub)
  have t17:Two s17.rt s17.gt:=by
   rw[hs17]
   exact t15.own (by decide) v
  have pg17:∀ p,p≠53->s17.gt[p]?=s15.gt[p]?:=fun p hp=>by
   rw[hs17]
   exact putT_ne (fun e=>hp (Option.some.inj e).symm)
  have b53:s17.gt[53]?=some v:=by
   rw[hs17]
   exact putT_self (by have:=t15.gsz;omega)
  obtain⟨W18,m18,T18,h18,w18⟩:=turns 3 3 (gk:=.inRegion (mapA ghOp (cOps (cHd (cTs 5 bD)))) [0] :: .code (gh (cTs 6 bD)) :: []) (rk:=.inRegion (cOps (cHd (cTs 5 bD))) [0] :: .code (cTs 6 bD) :: []) h17 (by rw[hs17];rfl) (by rw[hs17];rfl)
  have w018:=w017.trans (w18.weak w017.sub)
  obtain⟨s19,h19,w19,g19,r19,t19,e19,q19,u19,jj19,nn19⟩:=both_move (v:=.int .i64 0) h18 t17 8 rfl rfl (o:=(cOps (cHd (cTs 5 bD))).getD 0 default) (by rfl) (by rfl) (by rfl) (by decide) (by rfl) (by rfl) (by rfl)
  have w019:=w018.trans (w19.weak w017.sub)
  have e19:s19.gt=putT s17.gt (some 8) (.int .i64 0):=e19
  have jj19:s19.J=s17.J:=jj19
  obtain⟨W20,m20,T20,h20,w20⟩:=turns 2 2 (gk:=.code (gh (cHd (cTs 6 bD))) :: .code (gh (cTs 7 bD)) :: []) (rk:=.code (cHd (cTs 6 bD)) :: .code (cTs 7 bD) :: []) h19 (by rw[g19];rfl) (by rw[r19];rfl)
  have w020:=w019.trans (w20.weak w019.sub)
  obtain⟨s21,h21,w21,g21,r21,t21,b21,n21,j21,o21,p21,z21⟩:=mk_region hE h20 (i0.way w020) t19 (id:=6) (id':=6) (ops:=cOps (cHd (cTs 6 bD))) (kg:=.code (gh (cTs 7 bD)) :: []) (kr:=.code (cTs 7 bD) :: []) (by rfl) (by rfl) 20 9 (o1:=(cOps (cHd (cTs 6 bD))).getD 0 default) (o2:=(cOps (cHd (cTs 6 bD))).getD 1 default) (by rfl) (by rfl) (by rfl) (by rfl) (by rfl) (by rfl) (by rfl) (by rfl) (by rfl) (by decide) (by decide)
  have w021:=w020.trans (w21.weak w019.sub)
  obtain⟨k4,hk4⟩:∃ k4,k4=s19.u.heap.size:=⟨_,rfl⟩
  change s21.gt[9]?=some (.chan (some s19.u.heap.size))at b21
  change ¬s19.J s19.u.heap.size at n21
  change s21.J s19.u.heap.size at j21
  change Opn s21.W s19.u.heap.size at o21
  rw[<-hk4]at b21 n21 j21 o21
  have p21:∀ p,p≠20->p≠9->s21.gt[p]?=s19.gt[p]?:=p21
  have pe19:∀ p,p≠8->s19.gt[p]?=s17.gt[p]?:=fun p hp=>by rw[e19];exact putT_ne (fun e=>hp (Option.some.inj e).symm)
  obtain⟨W22,m22,T22,h22,w22⟩:=turns 3 3 (gk:=gkHead) (rk:=rkHead) h21 (by rw[g21];rfl) (by rw[r21];rfl)
  have w022:=w021.trans (w22.weak w021.sub)
  have J17:s17.J k1/\s17.J k2/\s17.J k3:=⟨w17.sub _ J15.1,w17.sub _ J15.2.1,w17.sub _ J15.2.2⟩
  have J19:s19.J k1/\s19.J k2/\s19.J k3:=by rw[jj19];exact J17
  have J21:s21.J k1/\s21.J k2/\s21.J k3:=⟨w21.sub _ J19.1,w21.sub _ J19.2.1,w21.sub _ J19.2.2⟩
  have kp1719:=w18.kp.trans (fun k hk=>hk) w19.kp
  have kp1921:=w20.kp.trans (fun k hk=>hk) w21.kp
  have o17:Opn s17.W k1/\Opn s17.W k2/\Opn s17.W k3:=⟨opn_kp o15.1 w17.kp J15.1,opn_kp o15.2.1 w17.kp J15.2.1,opn_kp o15.2.2 w17.kp J15.2.2⟩
  have o19:Opn s19.W k1/\Opn s19.W k2/\Opn s19.W k3:=⟨opn_kp o17.1 kp1719 J17.1,opn_kp o17.2.1 kp1719 J17.2.1,opn_kp o17.2.2 kp1719 J17.2.2⟩
  have o21':Opn s21.W k1/\Opn s21.W k2/\Opn s21.W k3:=⟨opn_kp o19.1 kp1921 J19.1,opn_kp o19.2.1 kp1921 J19.2.1,opn_kp o19.2.2 kp1921 J19.2.2⟩
  have g21at:∀ p,p≠20->p≠9->p≠8->p≠53->p≠17->p≠18->p≠19->s21.gt[p]?=s12.gt[p]?:=fun p a b c d e f g=>(p21 p a b).trans ((pe19 p c).trans ((pg17 p d).trans (pp p e f g)))
  obtain⟨s22,hs22⟩:∃ s22:Pt,s22=⟨gkHead,rkHead,s21.gt,s21.rt,s21.u,W22,m22,T22,s21.J,s21.n⟩:=⟨_,rfl⟩
  obtain⟨_,d1',d2',d3',dz'⟩:=dt00_at v (.chan (some k1)) (.chan (some k2)) (.chan (some k3))
  have l22:Lp Inb s0.J s22.rt s22 k1 k2 k3 k4 s15.n (dt0 v k1 k2 k3):=by
   rw[hs22]
   exact
   {two:=t21
    ex:=ex_start t21.gsz ((p21 53 (by decide) (by decide)).trans ((pe19 53 (by decide)).trans b53)) fun p hp h53=>by
     have hge:=hc53 p hp
     exact (g21at p (by omega) (by omega) (by omega) h53 (by omega) (by omega) (by omega)).trans ((p12 p (.inr hge)).trans (acl p hp))
    g5:=(g21at 5 (by decide) (by decide) (by decide) (by decide) (by decide) (by decide) (by decide)).trans d5
    g6:=(g21at 6 (by decide) (by decide) (by decide) (by decide) (by decide) (by decide) (by decide)).trans d6
    g7:=(g21at 7 (by decide) (by decide) (by decide) (by decide) (by decide) (by decide) (by decide)).trans d7
    g8:=⟨0,(p21 8 (by decide) (by decide)).trans (by rw[e19];exact putT_self (by have:=t17.gsz;omega))⟩
    g9:=b21
    j0:=Nat.ne_of_gt (co_pos hc15)
    jn:=by
     show s15.n<s21.n
     have a1:s15.n+1<=s17.n:=by rw[hs17];exact Nat.le_refl _
     have a2:s17.n<=s19.n:=Nat.le_trans w18.le w19.le
     have a3:s19.n<=s21.n:=Nat.le_trans w20.le w21.le
     omega
    in0:=hc15.high _ (Nat.le_refl _)
    z0:=hc15.zero
    J1:=J21.1
    J2:=J21.2.1
    J3:=J21.2.2
    J4:=j21
    n1:=m1
    n2:=m2
    n3:=m3
    n4:=fun h=>n21 (w019.sub _ h)
    o1:=opn_kp o21'.1 w22.kp J21.1
    o2:=opn_kp o21'.2.1 w22.kp J21.2.1
    o3:=opn_kp o21'.2.2 w22.kp J21.2.2
    o4:=opn_kp o21 w22.kp j21
    ne:=⟨k12,k13,fun e=>n21 (e ▸ J19.1),k23,fun e=>n21 (e ▸ J19.2.1),fun e=>n21 (e ▸ J19.2.2)⟩
    fresh:=hseats
    sub:=fun k hk=>w021.sub k hk
    d1:=by unfold dt0;rw[putT_ne (by decide),putT_ne (by decide),putT_ne (by decide)];exact d1'
    d2:=by unfold dt0;rw[putT_ne (by decide),putT_ne (by decide),putT_ne (by decide)];exact d2'
    d10:=by unfold dt0;rw[putT_ne (by decide)];exact putT_self (by rw[putT_size,dz'];decide)
    d11:=by unfold dt0;exact putT_self (by rw[putT_size,putT_size,dz'];decide)}
  rw[<-hs22]at h22 w022
  obtain⟨s23,dt',h23,w23,g23,r23,l23⟩:=lp_loop hE h22.inev s22 _ rfl rfl rfl h22 (i0.way w022) l22 (by rw[hs22]) (by rw[hs22])
  have w023:=w022.trans w23
  obtain⟨v',u',J',n',W',m',T',f1,f2,f3,f4,f5,f6,f7⟩:=drive_close hE h23 (i0.way w023) l23 g23 r23
  refine⟨v',u',J',n',W',m',T',?_,f2,w023.rch.trans f3,f4,fun k hk=>f5 k (w023.sub k hk),Nat.le_trans w023.le f6,w023.kp.trans (fun k hk=>hk) f7⟩
  rcases w023.ltr with ⟨a1,a2,a3⟩ | hL
  ·rw[a1,a2,a3]at f1
   exact f1
  ·exact hL.trans f1
 rw[hs0]at goal
 exact goal
end
#print axioms drive_fw
end
section
open Go Go.Extern Go.Extern.Rtype
theorem ext_find{fn:Func}{n:String}{e:Array Value->Sem Value}(hn:fn.name=n)(ho:fn.origin= "")(h1:allGenericRows.lookup n=none)(h2:allTypedRows.lookup n=none)(h3:allRows.lookup n=some e)(h4:allNextRows.lookup n=none)(h5:allNextRows.lookup "" =none):findNext fn=none/\Extern.find fn=some e:=by
 unfold findNext Extern.find
 dsimp only
 rw[hn,ho,h1,h2,h3,h4,h5]
 exact⟨rfl,rfl⟩
theorem ext_seen:(gP.funcs.toList.all fun fn=>(!(fn.body.isNone && gE.contains fn.name) || fn.origin == "") && !(fn.name == "runtime.NumGoroutine"))=true:=by kernel_rfl
theorem ext_row{fn:Func}{n:String}{e:Array Value->Sem Value}(hn:fn.name=n)(ho:fn.origin= "")(hr:allGenericRows.lookup n=none/\allTypedRows.lookup n=none/\allRows.lookup n=some e/\allNextRows.lookup n=none/\allNextRows.lookup "" =none)
  (ht:∀ F args,Tm (ofF gP F) (maskF gP gE) (clL gP gE) (e args) fun _=>True):
  findNext fn=none/\∃ e,Extern.find fn=some e/\∀ F args,Tm (ofF gP F) (maskF gP gE) (clL gP gE) (e args) fun _=>True:=
 have h:=ext_find hn ho hr.1 hr.2.1 hr.2.2.1 hr.2.2.2.1 hr.2.2.2.2
 ⟨h.1,e,h.2,ht⟩
theorem gExt:Ext gP gE:=by
 have hs:∀ (f:FuncId) (fn:Func),gP.funcs[f]?=some fn->(fn.body=none->gE.contains fn.name=true->fn.origin= "")/\(fn.name == "runtime.NumGoroutine")=false:=fun f fn h=>by
  have h1:=List.all_eq_true.1 ext_seen fn (Array.mem_toList_iff.2 (Array.mem_of_getElem? h))
  simp only[Bool.and_eq_true,Bool.or_eq_true,Bool.not_eq_true',beq_iff_eq]at h1
  refine⟨fun hb he=>?_,h1.2⟩
  rcases h1.1 with h2 | h2
  ·rw[hb,he]at h2;cases h2
  ·exact h2
 refine⟨fun f fn h=>(hs f fn h).2,fun f fn h hb he=>?_⟩
 have ho:=(hs f fn h).1 hb he
 have hm:fn.name∈gE:=List.contains_iff_mem.1 he
 simp only[gE,List.mem_cons,List.not_mem_nil,or_false]at hm
 rcases hm with hn | hn | hn | hn | hn | hn | hn | hn | hn | hn | hn
 ·exact ext_row (e:=ReflectliteType.typeOf) hn ho (by refine⟨?_,?_,?_,?_,?_⟩ <;> kernel_rfl) fun F a=>tm_typeOf a
 ·exact ext_row (e:=fun args=>ReflectliteValue.unpack (args.getD 0 (.tuple #[]))) hn ho (by refine⟨?_,?_,?_,?_,?_⟩ <;> kernel_rfl) fun F a=>TmC.out
 ·exact ext_row (e:=ReflectliteValue.methodAny (ReflectliteValue.valueError "reflectlite.Value.Type" 0) fun t _ _ _=>ReflectliteType.toType t) hn ho (by refine⟨?_,?_,?_,?_,?_⟩ <;> kernel_rfl) fun F a=>tm_vmethodAny TmC.out (fun _ _ _ _=>TmC.out) a
 ·exact ext_row (e:=ReflectliteValue.method (ReflectliteValue.valueError "reflectlite.Value.IsNil" 0) ReflectliteValue.isNil) hn ho (by refine⟨?_,?_,?_,?_,?_⟩ <;> kernel_rfl) fun F a=>tm_vmethod TmC.out (fun _ _ _ _=>TmC.out) a
 ·exact ext_row (e:=ReflectliteValue.method (ReflectliteValue.valueError "reflectlite.Value.Elem" 0) ReflectliteValue.elem) hn ho (by refine⟨?_,?_,?_,?_,?_⟩ <;> kernel_rfl) fun F a=>tm_vmethod TmC.out (fun _ _ _ _=>TmC.out) a
 ·exact ext_row (e:=ReflectliteValue.set) hn ho (by refine⟨?_,?_,?_,?_,?_⟩ <;> kernel_rfl) fun F a=>tm_vset a
 ·exact ext_row (e:=ReflectliteType.abiMethod fun t=>do pure (.int .u8 (<-Rtype.kind t))) hn ho (by refine⟨?_,?_,?_,?_,?_⟩ <;> kernel_rfl) fun F a=>tm_abiMethod (fun _=>Tm.bind (Q:=fun _=>True) TmC.out fun _ _=>tm_pure trivial) a
 ·exact ext_row (e:=ReflectliteType.relation "AssignableTo" ReflectliteType.assignableTo) hn ho (by refine⟨?_,?_,?_,?_,?_⟩ <;> kernel_rfl) fun F a=>tm_relation (fun _ _=>TmC.out) a
 ·exact ext_row (e:=ReflectliteType.method fun t=>do noPackHeld "Comparable" t;pure (.bool (<-typeInfo t).comparable)) hn ho (by refine⟨?_,?_,?_,?_,?_⟩ <;> kernel_rfl) fun F a=>tm_rmethod (fun _=>Tm.bind (Q:=fun _=>True) TmC.out fun _ _=>Tm.bind (Q:=fun _=>True) TmC.out fun _ _=>tm_pure trivial) a
 ·exact ext_row (e:=ReflectliteType.method ReflectliteType.elem) hn ho (by refine⟨?_,?_,?_,?_,?_⟩ <;> kernel_rfl) fun F a=>tm_rmethod (fun _=>TmC.out) a
 ·exact ext_row (e:=ReflectliteType.relation "Implements" ReflectliteType.implements_) hn ho (by refine⟨?_,?_,?_,?_,?_⟩ <;> kernel_rfl) fun F a=>tm_relation (fun _ _=>TmC.out) a
end
section
open Go Go.Conc Go.RowKit
def keepO:Obj->Bool
 | .cells .. | .map .. | .stringIter .. | .mapIter .. | .number ..=>true
 | _=>false
def layO(k:Nat):Obj->Obj
 | .view _ t=>.view ⟨k,0,none⟩ t
 | o=>if keepO o then o else .coro none
def layW(W:World):World:={W with heap:=W.heap.mapIdx layO}
def aside(W:World)(k:Nat):Prop:=∃ o,W.heap[k]?=some o/\keepO o=false
theorem layW_get(W:World)(k:Nat):(layW W).heap[k]?=W.heap[k]?.map (layO k):=by
 unfold layW
 rw[Array.getElem?_mapIdx]
theorem layW_size(W:World):(layW W).heap.size=W.heap.size:=by
 unfold layW
 simp
theorem layO_keep{k:Nat}{o:Obj}(h:keepO o=true):layO k o=o:=by
 cases o <;> first | rfl | (simp[keepO]at h)
theorem lay_sim(W:World):Sim (aside W) (layW W) W:=by
 refine⟨rfl,(layW_size W).symm,fun k hk=>?_,fun k ⟨o,ho,hko⟩=>?_⟩
 ·rw[layW_get]
  cases ho:W.heap[k]? with
  | none=>rfl
  | some o=>
    have:keepO o=true:=by
     cases h:keepO o with
     | true=>rfl
     | false=>exact absurd ⟨o,ho,h⟩ hk
    rw[Option.map_some,layO_keep this]
 ·cases o <;> first
   | (simp[keepO]at hko;done)
   | exact .inr ⟨_,_,by rw[layW_get,ho];rfl,ho⟩
   | exact .inl ⟨.coro none,_,by rw[layW_get,ho];rfl,ho,.inl ⟨rfl,trivial⟩⟩
theorem lay_clean{cl:Loop->Prop}(W:World):CleanH cl (layW W):=fun k o ho=>by
 rw[layW_get,Option.map_eq_some_iff]at ho
 obtain⟨x,_,rfl⟩:=ho
 cases x <;> first
  | exact .inl trivial
  | exact .inr ⟨_,rfl⟩
structure Lies(W w':World):Prop where
 os:w'.os=W.os
 output:w'.output=W.output
 size:W.heap.size<=w'.heap.size
 block:∀ k,k<W.heap.size->w'.heap[k]?=W.heap[k]?
theorem Lies.below{W w':World}(h:Lies W w'):Below W.heap.size W (onT w' W.tape w'.drawn):=⟨h.os,rfl,h.output,h.size,h.block⟩
theorem ring_start(R:Program)(a:Goroutine)(W:World)(B:Nat):Ring R (fun _=>True) (fun _=>False) B (Mm fun _=>none) (fun _=>none) 0 #[] #[a] W (fun _=>0):=by
 have e:(Mm fun _=>none)=fun g=>g=0:=by
  funext i
  simp[Mm]
 rw[e]
 exact ring_begin (fun _ z=>z.elim) (leavers_one _ _) (past_nil.mono (Nat.zero_le _)) trivial
theorem run_of{f:FuncId}{fn:Func}(hf:gP.funcs[f]?=some fn)(hk:okFunc gP gE fn=true)(hfD:f≠dD)(hini:Tryz.prog.inits.idxOf? f=none)(args:Array Value)(W:World)
  (hC:∀ τ,Calls Tryx.prog f args (onT (layW W) τ (layW W).drawn) fun e w=>e=.returned (.bool true)/\Below (layW W).heap.size (onT (layW W) τ (layW W).drawn) w):
  ∃ M last o w' t',runNT Tryz.prog (M+1) (solo (G (Frame.enter Tryz.prog f args .normal) []) W) #[]=(.ended o w',t')/\
    runN Tryz.prog M (solo (G (Frame.enter Tryz.prog f args .normal) []) W)=.next last/\step Tryz.prog last=.ended o w'/\Conc.Good Tryz.prog (fun v w'=>v=.bool true/\Lies W w') last o w' t':=by
 have hI:Inev gP gE f (fun v w=>v=.bool true/\Lies (layW W) w) (Frame.enter gP f args .normal) [] (layW W):=by
  refine inevitable (R:= "fmt's door") gExt alike (by kernel_rfl) (by kernel_rfl) hf hk (lay_clean W) fun τ _=>?_
  rw[Tryx.mask]
  exact (hC τ).mono fun e w ⟨h1,h2⟩=>⟨_,h1,rfl,h2.os,h2.output,h2.size,h2.block⟩
 have hen:Frame.enter gP f args .normal=Frame.enter Tryz.prog f args .normal:=by
  unfold Frame.enter
  rw[gP_ne hfD]
 have hstart:Co Tryz.prog (fun _=>none) (aside W) 1 (Frame.enter gP f args .normal) [] (layW W) W (solo (G (Frame.enter Tryz.prog f args .normal) []) W) #[]:=
  ⟨⟨#[mkG (Frame.enter gP f args .normal) []],none,fun _=>0,0,by rw[hen];rfl,rfl,rfl,ring_start _ _ _ _⟩,lay_sim W,(fun i s c e=>by cases e),rfl,fun _ _=>rfl⟩
 obtain⟨fr',u',J',n',W',m',T',hAt,hfn,⟨N,hrun⟩,hCo,hJ,hKp⟩:=whole gExt alike (drive_fw gExt) hfD hI (by simp[Bas,Frame.enter]) _ _ _ _ _ _ hstart
 obtain⟨hok,hcl,hm,hd,fn',τ,v,hfn',hres,rfl,hlies⟩:=hAt
 obtain⟨gs,sl,q,B,rfl,hsz,hg,hR⟩:=hCo.ex
 obtain⟨L,Pp⟩:=ring_end hR (.inr rfl) (fun _ _=>rfl)
 have hreal:Tryz.prog.funcs[fr'.fn]?=some fn':=by
  rw[<-hfn',hfn]
  exact (gP_ne hfD).symm
 have hend:∀ d,∃ es,stepG Tryz.prog true (mkG fr' []) (W'.at d)=.ended (.done (.bool true)) (W'.at d) es/\∀ e∈es,EvOk W'.heap.size e:=fun d=>by
  have s3:=TameS.sound (X:=ofF gP Tryz.prog.funcs) (own:=False) (.inr ⟨rfl,id⟩) (tm_results (P:=gP) (F:=Tryz.prog.funcs) (E:=gE) fn' fr'.tmps fun _=>False) (onT u' τ u'.drawn) hcl fun k h=>h.elim
  rw[hres]at s3
  obtain⟨n,hn,hmm⟩:=(s3.2.2.resolve_left fun h=>h.2).out
  have hn0:n=0:=by
   have:(onT u' τ u'.drawn).drawn=(onT u' τ u'.drawn).drawn+n:=hn
   omega
  subst hn0
  obtain⟨W1,es1,e,hS1,ho,hu,hJk,hz,hev⟩:=hmm J' W' W'.tape d #[] (hCo.sim.of_heap rfl rfl rfl rfl) fun i hi=>by omega
  have hW1:onT W1 W'.tape (d+0)=W'.at d:=by
   refine (world_eq (u1:=W') ⟨ho,?_,fun k _=>?_,fun k h=>h.elim⟩ hu).trans rfl
   ·rw[hS1.size,hCo.sim.size];rfl
   ·by_cases hk:J' k
    ·exact hJk k hk
    ·exact (hS1.same k hk).trans (hCo.sim.same k hk).symm
  rw[hW1]at e
  have e:(results fn' fr'.tmps).runT Tryz.prog (W'.at d) #[]=(.ok (.bool true) (W'.at d),#[] ++ es1):=e
  have hmr:fr'.mode≠.run:=by rw[hm];simp
  have hst:stepG Tryz.prog true (mkG fr' []) (W'.at d)=unwind Tryz.prog true fr' [] none (W'.at d):=unwind_stp (frs:=[]) hmr Tryz.prog [] (W'.at d)
  have hsz1:W1.heap.size=W'.heap.size:=by rw[hS1.size,hCo.sim.size];rfl
  refine⟨seen Tryz.prog fr'.fn (#[] ++ es1) ++ #[],?_,fun x hx=>?_⟩
  ·rw[hst,unwind]
   simp only[hd,hm,hreal,e,doReturn,hok.kind]
   rw[hfn,hini]
   rfl
  ·have:=mem_seen (by simpa using hx)
   rw[<-hsz1]
   exact hev x (by simpa using this)
 have hlies':∀ d,Lies W (W'.at d):=fun d=>by
  refine⟨hKp.os,hKp.output,?_,fun k hk=>?_⟩
  ·have:=hlies.size
   rw[layW_size]at this
   show W.heap.size<=W'.heap.size
   rw[hCo.sim.size]
   exact this
  ·show W'.heap[k]?=W.heap[k]?
   by_cases ha:aside W k
   ·exact hKp.block k ha
   ·have h1:u'.heap[k]?=W.heap[k]?:=by
     have h1:=hlies.block k (by rw[layW_size];exact hk)
     exact (show u'.heap[k]?=(layW W).heap[k]? from h1).trans ((lay_sim W).same k ha).symm
    obtain⟨o,ho⟩:∃ o,W.heap[k]?=some o:=⟨_,Array.getElem?_eq_getElem hk⟩
    have hko:keepO o=true:=by
     cases h:keepO o with
     | true=>rfl
     | false=>exact absurd ⟨o,ho,h⟩ ha
    rcases hCo.sim.at k with h2 |⟨z,x,h2,_,h3⟩ |⟨t,a,h2,_⟩
    ·exact h2.trans h1
    ·rw[h1,ho]at h2
     obtain rfl:=Option.some.inj h2
     rcases h3 with ⟨rfl,_⟩ |⟨rfl,_⟩ <;> cases hko
    ·rw[h1,ho]at h2
     obtain rfl:=Option.some.inj h2
     cases hko
 obtain⟨M8,last,o,w',t',e1,e2,e3,e4⟩:=beside_ends (P:=Tryz.prog) (Shun:=fun _=>False) (B:=max B W'.heap.size) (D:=fun _ _ _=>False) (Post:=fun v w'=>v=.bool true/\Lies W w') (sl:=sl) (n:=0) (w:=W') (fun _ _ _ h=>h.elim) hg L (Pp.mono (Nat.le_max_left _ _))
  (fun w1 hw1=>by
    obtain⟨d,rfl⟩:=hw1
    obtain⟨es,h1,h2⟩:=hend d
    refine⟨rfl,_,es,h1,fun e he=>?_,rfl,hlies' d⟩
    have:=evHd_of (h2 e he) (Nat.le_max_right B _)
    exact⟨fun x _ h=>h.elim,this.2.1,this.2.2.1,this.2.2.2⟩)
 refine⟨N+M8,last,o,w',t',?_,?_,e3,e4⟩
 ·rw[Nat.add_assoc,runNT_add]
  have hrun:runNT Tryz.prog N (solo (G (Frame.enter Tryz.prog f args .normal) []) W) #[]=_:=hrun
  rw[hrun]
  exact e1
 ·have hrun:runNT Tryz.prog N (solo (G (Frame.enter Tryz.prog f args .normal) []) W) #[]=_:=hrun
  rw[runN_add,<-runNT_fst Tryz.prog _ _ #[],hrun]
  exact e2
#print axioms run_of
end
end Go.Proofs.YticobikhndlejaaGreatDoor
