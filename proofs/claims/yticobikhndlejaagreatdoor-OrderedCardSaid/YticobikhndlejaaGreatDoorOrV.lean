/- Part 22 of the proof (see the last part). -/
import Derived.Test.YticobikhndlejaaGreatDoorOrU
import Derived.SevenTiedAt
import Derived.Conc.LeavingOf
namespace Go.Proofs.YticobikhndlejaaGreatDoor
section
open Go Go.Conc Go.RowKit
open Go.ConcN (upd upd_same upd_ne)
set_option maxHeartbeats 8000000
theorem pad_at(args:Array Value)(n i:Nat)(hi:i<n):(args ++ Array.replicate (n - args.size) undef)[i]?=if h:i<args.size then some args[i]else some undef:=by
 rw[Array.getElem?_append]
 split
 ·rename_i h
  exact Array.getElem?_eq_getElem h
 ·rename_i h
  rw[Array.getElem?_replicate,if_pos (by omega)]
theorem two_start(args:Array Value):Two (args ++ Array.replicate (53 - args.size) undef) (args ++ Array.replicate (84 - args.size) undef):=by
 refine⟨by simp;omega,by simp;omega,fun i hi=>?_⟩
 rw[pad_at args 53 i hi,pad_at args 84 i (by omega)]
theorem enter_g(args:Array Value):Frame.enter gP dD args .normal=fD dD (args ++ Array.replicate (84 - args.size) undef) [.code gD]:=by
 unfold Frame.enter
 rw[gP_D]
 rfl
theorem enter_r(args:Array Value):Frame.enter Tryz.prog dD args .normal=fD dD (args ++ Array.replicate (53 - args.size) undef) [.code bD]:=by
 unfold Frame.enter
 rw[Tryz.func26]
 rfl
section
variable {f:FuncId} {Post:Value->World->Prop}
theorem ex_start{gt:Array Value}{v:Value}{k1 k2 k3:Nat}(hsz:84<=gt.size)(h53:gt[53]?=some v)(hc:∀ p,(∃ i,i<17/\clr.getD i 0=p)->p≠53->gt[p]?=some undef):Ex gt (dt0 v k1 k2 k3):=by
 obtain⟨d0,d1,d2,d3,dz⟩:=dt00_at v (.chan (some k1)) (.chan (some k2)) (.chan (some k3))
 refine⟨hsz,by unfold dt0;rw[putT_size,putT_size,putT_size];exact dz,fun k hk=>?_⟩
 have hlt:=inS_lt hk
 have hne:(dt0 v k1 k2 k3)[k]?=(dt00 v (.chan (some k1)) (.chan (some k2)) (.chan (some k3)))[k]?:=by
  unfold dt0
  rw[putT_ne (fun e=>by cases e;cases hk),putT_ne (fun e=>by cases e;cases hk),putT_ne (fun e=>by cases e;cases hk)]
 rw[hne]
 by_cases h0:k=0
 ·subst h0;rw[d0];exact h53
 ·have hu:(dt00 v (.chan (some k1)) (.chan (some k2)) (.chan (some k3)))[k]?=some undef:=by
   have h4:4<=k:=by
    simp only[inS,Bool.or_eq_true,beq_iff_eq,Bool.and_eq_true,decide_eq_true_eq]at hk
    omega
   unfold dt00
   rw[Array.getElem?_append,if_neg (by simp;omega),Array.getElem?_replicate,if_pos (by simp;omega)]
  rw[hu]
  refine hc _ ?_ (by omega)
  have:∀ k,k<31->inS k=true->k≠0->∃ i,i<17/\clr.getD i 0=k+53:=by decide
  exact this k hlt hk h0
theorem drive_fw(hE:Ext gP gE):DriveFw gP Tryz.prog.funcs gE dD f Post:=by
 intro args c gs u hI ih c' rs Inb J n W m T hC
 rw[enter_g]at hI ih ⊢
 have hC:Co Tryz.prog Inb J n (Frame.enter Tryz.prog dD args .normal) (c' :: rs) u W m T:=hC
 rw[enter_r]at hC
 obtain⟨s0,hs0⟩:∃ s0:Pt,s0=⟨[.code gD],[.code bD],args ++ Array.replicate (84 - args.size) undef,args ++ Array.replicate (53 - args.size) undef,u,W,m,T,J,n⟩:=⟨_,rfl⟩
 have hn0:=co_pos hC
 have h0:s0.Ok gP Tryz.prog.funcs gE dD f Post c c' gs rs Inb:=by rw[hs0];exact⟨hI,hC⟩
 have i0:Fwd gP Tryz.prog.funcs gE dD f Post c gs s0:=by rw[hs0];exact ih
 have t0:Two s0.rt s0.gt:=by rw[hs0];exact two_start args
 have goal:∃ v u' J' n' W' m' T',Ltr gP gE (fD dD s0.gt s0.gk) (c :: gs) s0.u (c.finish v) gs u'/\Inev gP gE f Post (c.finish v) gs u'/\Rch Tryz.prog s0.m s0.T m' T'/\Co Tryz.prog Inb J' n' (c'.finish v) rs u' W' m' T'/\(∀ k,s0.J k->J' k)/\s0.n<=n'/\Kp s0.J s0.W W':=by
  have hg0:s0.gk=[.code gD]:=by rw[hs0]
  have hr0:s0.rk=[.code bD]:=by rw[hs0]
  have hp0:0<s0.n:=by rw[hs0];exact hn0
  clear hs0 hI ih hC hn0
  obtain⟨h1,w1⟩:=gh_turns 2 (gk:=.inRegion gh0 (List.range 17) :: .code (gh bD) :: []) h0 (by rw[hg0];rfl)
  obtain⟨gt2,h2,w2,t2,p2⟩:=gh_clear (List.range 17) h1 rfl (fun i hi=>by simpa using hi) t0
  have w02:=w1.trans w2
  obtain⟨W3,m3,T3,h3,w3⟩:=turns 2 1 (gk:=.code (gh (cHd bD)) :: .code (gh (cTl bD)) :: []) (rk:=.code (cHd bD) :: .code (cTl bD) :: []) h2 (by rfl) (by show ctlN 1 s0.rk=_;rw[hr0];rfl)
  have w03:=w02.trans w3
  have c2:∀ p,(∃ i,i<17/\clr.getD i 0=p)->gt2[p]?=some undef:=fun p ⟨i,hi,e⟩=>p2 p (.inr ⟨i,by simpa using hi,e⟩)
  have hc53:∀ p,(∃ i,i<17/\clr.getD i 0=p)->53<=p:=fun p ⟨i,hi,e⟩=>by
   have:∀ i,i<17->53<=clr.getD i 0:=by decide
   rw[<-e];exact this i hi
  obtain⟨s4,h4,w4,g4,r4,t4,p4⟩:=region_both hE alike [] h3 (i0.way w03) (id:=0) (id':=0) (ops:=cOps (cHd bD)) (kg:=.code (gh (cTl bD)) :: []) (kr:=.code (cTl bD) :: []) (by rfl) (by rfl) (by kernel_rfl) t2
  have w04:=w03.trans w4
  obtain⟨W5,m5,T5,h5,w5⟩:=turns 1 1 (gk:=.code (gh (cHd (cTs 1 bD))) :: .code (gh (cTs 2 bD)) :: []) (rk:=.code (cHd (cTs 1 bD)) :: .code (cTs 2 bD) :: []) h4 (by rw[g4];rfl) (by rw[r4];rfl)
  have w05:=w04.trans (w5.weak w4.sub)
  obtain⟨s6,h6,w6,g6,r6,t6,b6,n6,j6,o6,p6,z6⟩:=mk_region hE h5 (i0.way w05) t4 (id:=1) (id':=1) (ops:=cOps (cHd (cTs 1 bD))) (kg:=.code (gh (cTs 2 bD)) :: []) (kr:=.code (cTs 2 bD) :: []) (by rfl) (by rfl) 12 5 (o1:=(cOps (cHd (cTs 1 bD))).getD 0 default) (o2:=(cOps (cHd (cTs 1 bD))).getD 1 default) (by rfl) (by rfl) (by rfl) (by rfl) (by rfl) (by rfl) (by rfl) (by rfl) (by rfl) (by decide) (by decide)
  have w06:=w05.trans (w6.weak w4.sub)
  obtain⟨k1,hk1⟩:∃ k1,k1=s4.u.heap.size:=⟨_,rfl⟩
  change s6.gt[5]?=some (.chan (some s4.u.heap.size))at b6
  change ¬s4.J s4.u.heap.size at n6
  change s6.J s4.u.heap.size at j6
  change Opn s6.W s4.u.heap.size at o6
  rw[<-hk1]at b6 n6 j6 o6
  obtain⟨W7,m7,T7,h7,w7⟩:=turns 1 1 (gk:=.code (gh (cHd (cTs 2 bD))) :: .code (gh (cTs 3 bD)) :: []) (rk:=.code (cHd (cTs 2 bD)) :: .code (cTs 3 bD) :: []) h6 (by rw[g6];rfl) (by rw[r6];rfl)
  have w07:=w06.trans (w7.weak w06.sub)
  obtain⟨s8,h8,w8,g8,r8,t8,b8,n8,j8,o8,p8,z8⟩:=mk_region hE h7 (i0.way w07) t6 (id:=2) (id':=2) (ops:=cOps (cHd (cTs 2 bD))) (kg:=.code (gh (cTs 3 bD)) :: []) (kr:=.code (cTs 3 bD) :: []) (by rfl) (by rfl) 13 6 (o1:=(cOps (cHd (cTs 2 bD))).getD 0 default) (o2:=(cOps (cHd (cTs 2 bD))).getD 1 default) (by rfl) (by rfl) (by rfl) (by rfl) (by rfl) (by rfl) (by rfl) (by rfl) (by rfl) (by decide) (by decide)
  have w08:=w07.trans (w8.weak w06.sub)
  obtain⟨k2,hk2⟩:∃ k2,k2=s6.u.heap.size:=⟨_,rfl⟩
  change s8.gt[6]?=some (.chan (some s6.u.heap.size))at b8
  change ¬s6.J s6.u.heap.size at n8
  change s8.J s6.u.heap.size at j8
  change Opn s8.W s6.u.heap.size at o8
  rw[<-hk2]at b8 n8 j8 o8
  obtain⟨W9,m9,T9,h9,w9⟩:=turns 1 1 (gk:=.code (gh (cHd (cTs 3 bD))) :: .code (gh (cTs 4 bD)) :: []) (rk:=.code (cHd (cTs 3 bD)) :: .code (cTs 4 bD) :: []) h8 (by rw[g8];rfl) (by rw[r8];rfl)
  have w09:=w08.trans (w9.weak w08.sub)
  obtain⟨s10,h10,w10,g10,r10,t10,b10,n10,j10,o10,p10,z10⟩:=mk_region hE h9 (i0.way w09) t8 (id:=3) (id':=3) (ops:=cOps (cHd (cTs 3 bD))) (kg:=.code (gh (cTs 4 bD)) :: []) (kr:=.code (cTs 4 bD) :: []) (by rfl) (by rfl) 14 7 (o1:=(cOps (cHd (cTs 3 bD))).getD 0 default) (o2:=(cOps (cHd (cTs 3 bD))).getD 1 default) (by rfl) (by rfl) (by rfl) (by rfl) (by rfl) (by rfl) (by rfl) (by rfl) (by rfl) (by decide) (by decide)
  have w010:=w09.trans (w10.weak w08.sub)
  obtain⟨k3,hk3⟩:∃ k3,k3=s8.u.heap.size:=⟨_,rfl⟩
  change s10.gt[7]?=some (.chan (some s8.u.heap.size))at b10
  change ¬s8.J s8.u.heap.size at n10
  change s10.J s8.u.heap.size at j10
  change Opn s10.W s8.u.heap.size at o10
  rw[<-hk3]at b10 n10 j10 o10
  have p9:∀ p,p≠13->p≠6->s8.gt[p]?=s6.gt[p]?:=p8
  have p11:∀ p,p≠14->p≠7->s10.gt[p]?=s8.gt[p]?:=p10
  have p7:∀ p,p≠12->p≠5->s6.gt[p]?=s4.gt[p]?:=p6
  have a5:s10.gt[5]?=some (.chan (some k1)):=(p11 5 (by decide) (by decide)).trans ((p9 5 (by decide) (by decide)).trans b6)
  have a6:s10.gt[6]?=some (.chan (some k2)):=(p11 6 (by decide) (by decide)).trans b8
  have acl:∀ p,(∃ i,i<17/\clr.getD i 0=p)->s10.gt[p]?=some undef:=fun p hp=>by
   have h53:=hc53 p hp
   exact (p11 p (by omega) (by omega)).trans ((p9 p (by omega) (by omega)).trans ((p7 p (by omega) (by omega)).trans ((p4 p (.inr h53)).trans (c2 p hp))))
  have J8:s8.J k1:=w8.sub _ j6
  have J10:s10.J k1:=w10.sub _ J8
  have J10':s10.J k2:=w10.sub _ j8
  have q8:Opn s8.W k1:=opn_kp (opn_kp o6 w7.kp j6) w8.kp j6
  have q10:Opn s10.W k1:=opn_kp (opn_kp q8 w9.kp J8) w10.kp J8
  have q10':Opn s10.W k2:=opn_kp (opn_kp o8 w9.kp j8) w10.kp j8
  obtain⟨W11,m11,T11,h11,w11⟩:=turns 2 2 (gk:=.inRegion gops4 [0,1,2,3,4,5] :: .code (gh (cTs 5 bD)) :: []) (rk:=.inRegion ops4 [0,1,2,3,4,5] :: .code (cTs 5 bD) :: []) h10 (by rw[g10];rfl) (by rw[r10];rfl)
  have w011:=w010.trans (w11.weak w010.sub)
  obtain⟨s12,h12,w12,g12,r12,t12,p12⟩:=reg_both hE alike (prot:=[5,6,7]) (ops:=gops4) (ops':=ops4) (rest:=[2,3,4,5]) (kg:=.code (gh (cTs 5 bD)) :: []) (kr:=.code (cTs 5 bD) :: []) [0,1] h11 (i0.way w011) (by rfl) (by rfl) (fun i hi=>by
   have:i=0\/i=1:=by simpa using hi
   rcases this with rfl | rfl
   ·exact⟨ops4.getD 0 default,by rfl,by rfl,by kernel_rfl⟩
   ·exact⟨ops4.getD 1 default,by rfl,by rfl,by kernel_rfl⟩) t10
  have p12:∀ p,(p∈[5,6,7]\/53<=p)->s12.gt[p]?=s10.gt[p]?:=p12
  have w012:=w011.trans (w12.weak w010.sub)
  have d5:s12.gt[5]?=some (.chan (some k1)):=(p12 5 (.inl (by decide))).trans a5
  have d6:s12.gt[6]?=some (.chan (some k2)):=(p12 6 (.inl (by decide))).trans a6
  have d7:s12.gt[7]?=some (.chan (some k3)):=(p12 7 (.inl (by decide))).trans b10
  have f5:s12.rt[5]?=some (.chan (some k1)):=(t12.eq 5 (by decide)).symm.trans d5
  obtain⟨s13,h13,w13,g13,r13,t13,e13,q13,u13,jj13,nn13⟩:=both_move (v:=.chan (some k1)) h12 t12 17 g12 r12 (o:=ops4.getD 2 default) (by rfl) (by rfl) (by rfl) (by decide) (by rfl) (by
   have e:(fD dD s12.gt []).eval (.tmp 5)=_:=evalD d5
   rw[<-e];rfl) (by
   have e:(fD dD s12.rt []).eval (.tmp 5)=_:=evalD f5
   rw[<-e];rfl)
  have d6':s13.gt[6]?=some (.chan (some k2)):=by rw[e13,putT_ne (by decide)];exact d6
  have f6':s13.rt[6]?=some (.chan (some k2)):=(t13.eq 6 (by decide)).symm.trans d6'
  obtain⟨s14,h14,w14,g14,r14,t14,e14,q14,u14,jj14,nn14⟩:=both_move (v:=.chan (some k2)) h13 t13 18 g13 r13 (o:=ops4.getD 3 default) (by rfl) (by rfl) (by rfl) (by decide) (by rfl) (by
   have e:(fD dD s13.gt []).eval (.tmp 6)=_:=evalD d6'
   rw[<-e];rfl) (by
   have e:(fD dD s13.rt []).eval (.tmp 6)=_:=evalD f6'
   rw[<-e];rfl)
  have d7':s14.gt[7]?=some (.chan (some k3)):=by rw[e14,putT_ne (by decide),e13,putT_ne (by decide)];exact d7
  have f7':s14.rt[7]?=some (.chan (some k3)):=(t14.eq 7 (by decide)).symm.trans d7'
  obtain⟨s15,h15,w15,g15,r15,t15,e15,q15,u15,jj15,nn15⟩:=both_move (v:=.chan (some k3)) h14 t14 19 g14 r14 (o:=ops4.getD 4 default) (by rfl) (by rfl) (by rfl) (by decide) (by rfl) (by
   have e:(fD dD s14.gt []).eval (.tmp 7)=_:=evalD d7'
   rw[<-e];rfl) (by
   have e:(fD dD s14.rt []).eval (.tmp 7)=_:=evalD f7'
   rw[<-e];rfl)
  have w1215:=(w13.trans (w14.weak fun k hk=>by rw[jj13];exact hk)).trans (w15.weak fun k hk=>by rw[jj14,jj13];exact hk)
  have w015:=w012.trans (w1215.weak w012.sub)
  obtain⟨v,hv⟩:∃ v,s15.gt[16]?=some v:=⟨_,Array.getElem?_eq_getElem (by have:=t15.gsz;omega)⟩
  have v16:s15.rt[16]?=some v:=(t15.eq 16 (by decide)).symm.trans hv
  have v17:s15.rt[17]?=some (.chan (some k1)):=by
   rw[q15,putT_ne (by decide),q14,putT_ne (by decide),q13]
   exact putT_self (by have:=t12.rsz;omega)
  have v18:s15.rt[18]?=some (.chan (some k2)):=by
   rw[q15,putT_ne (by decide),q14]
   exact putT_self (by have:=t13.rsz;omega)
  have v19:s15.rt[19]?=some (.chan (some k3)):=by
   rw[q15]
   exact putT_self (by have:=t14.rsz;omega)
  have pp:∀ p,p≠17->p≠18->p≠19->s15.gt[p]?=s12.gt[p]?:=fun p a b c=>by
   rw[e15,putT_ne (fun e=>c (Option.some.inj e).symm),e14,putT_ne (fun e=>b (Option.some.inj e).symm),e13,putT_ne (fun e=>a (Option.some.inj e).symm)]
  have J12:s12.J k1/\s12.J k2/\s12.J k3:=⟨w12.sub _ (w11.sub _ J10),w12.sub _ (w11.sub _ J10'),w12.sub _ (w11.sub _ j10)⟩
  have J15:s15.J k1/\s15.J k2/\s15.J k3:=⟨w1215.sub _ J12.1,w1215.sub _ J12.2.1,w1215.sub _ J12.2.2⟩
  have kp1015:=(w11.kp.trans (fun _ h=>h) w12.kp).trans (fun k hk=>hk) (w1215.weak (fun k hk=>w12.sub k (w11.sub k hk))).kp
  have o15:Opn s15.W k1/\Opn s15.W k2/\Opn s15.W k3:=⟨opn_kp q10 kp1015 J10,opn_kp q10' kp1015 J10',opn_kp o10 kp1015 j10⟩
  have m1:¬s0.J k1:=fun h=>n6 (w04.sub _ h)
  have m2:¬s0.J k2:=fun h=>n8 (w06.sub _ h)
  have m3:¬s0.J k3:=fun h=>n10 (w08.sub _ h)
  have k12:k1≠k2:=fun e=>n8 (e ▸ j6)
  have k13:k1≠k3:=fun e=>n10 (e ▸ J8)
  have k23:k2≠k3:=fun e=>n10 (e ▸ j8)
  have hseats:∀ x s' y,Inb x=some s'->s'.has y->s0.J y:=fun x s' y e hy=>h0.co.seats x s' y e hy
  obtain⟨h16,w16⟩:=gh_pure h15 g15 (o:=gops4.getD 5 default) (v:=v) (by rfl) (by rfl) (by
   have e:(fD dD s15.gt []).eval (.tmp 16)=_:=evalD hv
   rw[<-e];rfl)
  have hc15:=h15.co
  rw[r15]at hc15
  obtain⟨W17,m17,T17,x1,x2,x3,x4⟩:=co_hire hc15 (fun w=>go_step v16 v17 v18 v19 w) (seatD k1 k2 k3 (dt0 v k1 k2 k3)) (seatD_wf k12) (fun x s' y e hy hn=>by
    have:=hseats x s' y e hy
    rcases seatD_has hn with rfl | rfl
    ·exact m1 this
    ·exact m2 this) (fun y hy=>by
    rcases seatD_has hy with rfl | rfl
    ·exact⟨J15.1,o15.1⟩
    ·exact⟨J15.2.1,o15.2.1⟩) (Nat.ne_of_gt (co_pos hc15)) (fun B=>sits_of (k_birth v k1 k2 k3) (k_at (k1:=k1) (k2:=k2) (by
     unfold dt0
     rw[putT_ne (by decide)]
     exact putT_self (by rw[putT_size,(dt00_at _ _ _ _).2.2.2.2];decide)) (by
     unfold dt0
     exact putT_self (by rw[putT_size,putT_size,(dt00_at _ _ _ _).2.2.2.2];decide)) B))
  obtain⟨s17,hs17⟩:∃ s17:Pt,s17=⟨.inRegion gops4 [] :: .code (gh (cTs 5 bD)) :: [],.inRegion ops4 [] :: .code (cTs 5 bD) :: [],putT s15.gt (some 53) v,s15.rt,s15.u,W17,m17,T17,s15.J,s15.n+1⟩:=⟨_,rfl⟩
  have h17:s17.Ok gP Tryz.prog.funcs gE dD f Post c c' gs rs (inbL Inb k1 k2 k3 s15.n (dt0 v k1 k2 k3)):=by
   rw[hs17]
   exact⟨h16.inev,x2⟩
  have w17:Way gP Tryz.prog.funcs gE dD c gs s15.J s15 s17:=by
   rw[hs17]
   exact⟨w16.ltr,x1,fun _ h=>h,Nat.le_succ _,x3⟩
  have w017:=w015.trans (w17.weak w015.sub)
  have t17:Two s17.rt s17.gt:=by
   rw[hs17]
   exact t15.own (by decide) v
  have pg17:∀ p,p≠53->s17.gt[p]?=s15.gt[p]?:=fun p hp=>by
   rw[hs17]
   exact putT_ne (fun e=>hp (Option.some.inj e).symm)
  have b53:s17.gt[53]?=some v:=by
   rw[hs17]
   exact putT_self (by have:=t15.gsz;omega)
  obtain⟨W18,m18,T18,h18,w18⟩:=turns 3 3 (gk:=.inRegion (mapA ghOp (cOps (cHd (cTs 5 bD)))) [0] :: .code (gh (cTs 6 bD)) :: []) (rk:=.inRegion (cOps (cHd (cTs 5 bD))) [0] :: .code (cTs 6 bD) :: []) h17 (by rw[hs17];rfl) (by rw[hs17];rfl)
  have w018:=w017.trans (w18.weak w017.sub)
  obtain⟨s19,h19,w19,g19,r19,t19,e19,q19,u19,jj19,nn19⟩:=both_move (v:=.int .i64 0) h18 t17 8 rfl rfl (o:=(cOps (cHd (cTs 5 bD))).getD 0 default) (by rfl) (by rfl) (by rfl) (by decide) (by rfl) (by rfl) (by rfl)
  have w019:=w018.trans (w19.weak w017.sub)
  have e19:s19.gt=putT s17.gt (some 8) (.int .i64 0):=e19
  have jj19:s19.J=s17.J:=jj19
  obtain⟨W20,m20,T20,h20,w20⟩:=turns 2 2 (gk:=.code (gh (cHd (cTs 6 bD))) :: .code (gh (cTs 7 bD)) :: []) (rk:=.code (cHd (cTs 6 bD)) :: .code (cTs 7 bD) :: []) h19 (by rw[g19];rfl) (by rw[r19];rfl)
  have w020:=w019.trans (w20.weak w019.sub)
  obtain⟨s21,h21,w21,g21,r21,t21,b21,n21,j21,o21,p21,z21⟩:=mk_region hE h20 (i0.way w020) t19 (id:=6) (id':=6) (ops:=cOps (cHd (cTs 6 bD))) (kg:=.code (gh (cTs 7 bD)) :: []) (kr:=.code (cTs 7 bD) :: []) (by rfl) (by rfl) 20 9 (o1:=(cOps (cHd (cTs 6 bD))).getD 0 default) (o2:=(cOps (cHd (cTs 6 bD))).getD 1 default) (by rfl) (by rfl) (by rfl) (by rfl) (by rfl) (by rfl) (by rfl) (by rfl) (by rfl) (by decide) (by decide)
  have w021:=w020.trans (w21.weak w019.sub)
  obtain⟨k4,hk4⟩:∃ k4,k4=s19.u.heap.size:=⟨_,rfl⟩
  change s21.gt[9]?=some (.chan (some s19.u.heap.size))at b21
  change ¬s19.J s19.u.heap.size at n21
  change s21.J s19.u.heap.size at j21
  change Opn s21.W s19.u.heap.size at o21
  rw[<-hk4]at b21 n21 j21 o21
  have p21:∀ p,p≠20->p≠9->s21.gt[p]?=s19.gt[p]?:=p21
  have pe19:∀ p,p≠8->s19.gt[p]?=s17.gt[p]?:=fun p hp=>by rw[e19];exact putT_ne (fun e=>hp (Option.some.inj e).symm)
  obtain⟨W22,m22,T22,h22,w22⟩:=turns 3 3 (gk:=gkHead) (rk:=rkHead) h21 (by rw[g21];rfl) (by rw[r21];rfl)
  have w022:=w021.trans (w22.weak w021.sub)
  have J17:s17.J k1/\s17.J k2/\s17.J k3:=⟨w17.sub _ J15.1,w17.sub _ J15.2.1,w17.sub _ J15.2.2⟩
  have J19:s19.J k1/\s19.J k2/\s19.J k3:=by rw[jj19];exact J17
  have J21:s21.J k1/\s21.J k2/\s21.J k3:=⟨w21.sub _ J19.1,w21.sub _ J19.2.1,w21.sub _ J19.2.2⟩
  have kp1719:=w18.kp.trans (fun k hk=>hk) w19.kp
  have kp1921:=w20.kp.trans (fun k hk=>hk) w21.kp
  have o17:Opn s17.W k1/\Opn s17.W k2/\Opn s17.W k3:=⟨opn_kp o15.1 w17.kp J15.1,opn_kp o15.2.1 w17.kp J15.2.1,opn_kp o15.2.2 w17.kp J15.2.2⟩
  have o19:Opn s19.W k1/\Opn s19.W k2/\Opn s19.W k3:=⟨opn_kp o17.1 kp1719 J17.1,opn_kp o17.2.1 kp1719 J17.2.1,opn_kp o17.2.2 kp1719 J17.2.2⟩
  have o21':Opn s21.W k1/\Opn s21.W k2/\Opn s21.W k3:=⟨opn_kp o19.1 kp1921 J19.1,opn_kp o19.2.1 kp1921 J19.2.1,opn_kp o19.2.2 kp1921 J19.2.2⟩
  have g21at:∀ p,p≠20->p≠9->p≠8->p≠53->p≠17->p≠18->p≠19->s21.gt[p]?=s12.gt[p]?:=fun p a b c d e f g=>(p21 p a b).trans ((pe19 p c).trans ((pg17 p d).trans (pp p e f g)))
  obtain⟨s22,hs22⟩:∃ s22:Pt,s22=⟨gkHead,rkHead,s21.gt,s21.rt,s21.u,W22,m22,T22,s21.J,s21.n⟩:=⟨_,rfl⟩
  obtain⟨_,d1',d2',d3',dz'⟩:=dt00_at v (.chan (some k1)) (.chan (some k2)) (.chan (some k3))
  have l22:Lp Inb s0.J s22.rt s22 k1 k2 k3 k4 s15.n (dt0 v k1 k2 k3):=by
   rw[hs22]
   exact
   {two:=t21
    ex:=ex_start t21.gsz ((p21 53 (by decide) (by decide)).trans ((pe19 53 (by decide)).trans b53)) fun p hp h53=>by
     have hge:=hc53 p hp
     exact (g21at p (by omega) (by omega) (by omega) h53 (by omega) (by omega) (by omega)).trans ((p12 p (.inr hge)).trans (acl p hp))
    g5:=(g21at 5 (by decide) (by decide) (by decide) (by decide) (by decide) (by decide) (by decide)).trans d5
    g6:=(g21at 6 (by decide) (by decide) (by decide) (by decide) (by decide) (by decide) (by decide)).trans d6
    g7:=(g21at 7 (by decide) (by decide) (by decide) (by decide) (by decide) (by decide) (by decide)).trans d7
    g8:=⟨0,(p21 8 (by decide) (by decide)).trans (by rw[e19];exact putT_self (by have:=t17.gsz;omega))⟩
    g9:=b21
    j0:=Nat.ne_of_gt (co_pos hc15)
    jn:=by
     show s15.n<s21.n
     have a1:s15.n+1<=s17.n:=by rw[hs17];exact Nat.le_refl _
     have a2:s17.n<=s19.n:=Nat.le_trans w18.le w19.le
     have a3:s19.n<=s21.n:=Nat.le_trans w20.le w21.le
     omega
    in0:=hc15.high _ (Nat.le_refl _)
    z0:=hc15.zero
    J1:=J21.1
    J2:=J21.2.1
    J3:=J21.2.2
    J4:=j21
    n1:=m1
    n2:=m2
    n3:=m3
    n4:=fun h=>n21 (w019.sub _ h)
    o1:=opn_kp o21'.1 w22.kp J21.1
    o2:=opn_kp o21'.2.1 w22.kp J21.2.1
    o3:=opn_kp o21'.2.2 w22.kp J21.2.2
    o4:=opn_kp o21 w22.kp j21
    ne:=⟨k12,k13,fun e=>n21 (e ▸ J19.1),k23,fun e=>n21 (e ▸ J19.2.1),fun e=>n21 (e ▸ J19.2.2)⟩
    fresh:=hseats
    sub:=fun k hk=>w021.sub k hk
    d1:=by unfold dt0;rw[putT_ne (by decide),putT_ne (by decide),putT_ne (by decide)];exact d1'
    d2:=by unfold dt0;rw[putT_ne (by decide),putT_ne (by decide),putT_ne (by decide)];exact d2'
    d10:=by unfold dt0;rw[putT_ne (by decide)];exact putT_self (by rw[putT_size,dz'];decide)
    d11:=by unfold dt0;exact putT_self (by rw[putT_size,putT_size,dz'];decide)}
  rw[<-hs22]at h22 w022
  obtain⟨s23,dt',h23,w23,g23,r23,l23⟩:=lp_loop hE h22.inev s22 _ rfl rfl rfl h22 (i0.way w022) l22 (by rw[hs22]) (by rw[hs22])
  have w023:=w022.trans w23
  obtain⟨v',u',J',n',W',m',T',f1,f2,f3,f4,f5,f6,f7⟩:=drive_close hE h23 (i0.way w023) l23 g23 r23
  refine⟨v',u',J',n',W',m',T',?_,f2,w023.rch.trans f3,f4,fun k hk=>f5 k (w023.sub k hk),Nat.le_trans w023.le f6,w023.kp.trans (fun k hk=>hk) f7⟩
  rcases w023.ltr with ⟨a1,a2,a3⟩ | hL
  ·rw[a1,a2,a3]at f1
   exact f1
  ·exact hL.trans f1
 rw[hs0]at goal
 exact goal
end
#print axioms drive_fw
end
section
open Go Go.Extern Go.Extern.Rtype
theorem ext_find{fn:Func}{n:String}{e:Array Value->Sem Value}(hn:fn.name=n)(ho:fn.origin= "")(h1:allGenericRows.lookup n=none)(h2:allTypedRows.lookup n=none)(h3:allRows.lookup n=some e)(h4:allNextRows.lookup n=none)(h5:allNextRows.lookup "" =none):findNext fn=none/\Extern.find fn=some e:=by
 unfold findNext Extern.find
 dsimp only
 rw[hn,ho,h1,h2,h3,h4,h5]
 exact⟨rfl,rfl⟩
theorem ext_seen:(gP.funcs.toList.all fun fn=>(!(fn.body.isNone && gE.contains fn.name) || fn.origin == "") && !(fn.name == "runtime.NumGoroutine"))=true:=by kernel_rfl
theorem ext_row{fn:Func}{n:String}{e:Array Value->Sem Value}(hn:fn.name=n)(ho:fn.origin= "")(hr:allGenericRows.lookup n=none/\allTypedRows.lookup n=none/\allRows.lookup n=some e/\allNextRows.lookup n=none/\allNextRows.lookup "" =none)
  (ht:∀ F args,Tm (ofF gP F) (maskF gP gE) (clL gP gE) (e args) fun _=>True):
  findNext fn=none/\∃ e,Extern.find fn=some e/\∀ F args,Tm (ofF gP F) (maskF gP gE) (clL gP gE) (e args) fun _=>True:=
 have h:=ext_find hn ho hr.1 hr.2.1 hr.2.2.1 hr.2.2.2.1 hr.2.2.2.2
 ⟨h.1,e,h.2,ht⟩
theorem gExt:Ext gP gE:=by
 have hs:∀ (f:FuncId) (fn:Func),gP.funcs[f]?=some fn->(fn.body=none->gE.contains fn.name=true->fn.origin= "")/\(fn.name == "runtime.NumGoroutine")=false:=fun f fn h=>by
  have h1:=List.all_eq_true.1 ext_seen fn (Array.mem_toList_iff.2 (Array.mem_of_getElem? h))
  simp only[Bool.and_eq_true,Bool.or_eq_true,Bool.not_eq_true',beq_iff_eq]at h1
  refine⟨fun hb he=>?_,h1.2⟩
  rcases h1.1 with h2 | h2
  ·rw[hb,he]at h2;cases h2
  ·exact h2
 refine⟨fun f fn h=>(hs f fn h).2,fun f fn h hb he=>?_⟩
 have ho:=(hs f fn h).1 hb he
 have hm:fn.name∈gE:=List.contains_iff_mem.1 he
 simp only[gE,List.mem_cons,List.not_mem_nil,or_false]at hm
 rcases hm with hn | hn | hn | hn | hn | hn | hn | hn | hn | hn | hn
 ·exact ext_row (e:=ReflectliteType.typeOf) hn ho (by refine⟨?_,?_,?_,?_,?_⟩ <;> kernel_rfl) fun F a=>tm_typeOf a
 ·exact ext_row (e:=fun args=>ReflectliteValue.unpack (args.getD 0 (.tuple #[]))) hn ho (by refine⟨?_,?_,?_,?_,?_⟩ <;> kernel_rfl) fun F a=>TmC.out
 ·exact ext_row (e:=ReflectliteValue.methodAny (ReflectliteValue.valueError "reflectlite.Value.Type" 0) fun t _ _ _=>ReflectliteType.toType t) hn ho (by refine⟨?_,?_,?_,?_,?_⟩ <;> kernel_rfl) fun F a=>tm_vmethodAny TmC.out (fun _ _ _ _=>TmC.out) a
 ·exact ext_row (e:=ReflectliteValue.method (ReflectliteValue.valueError "reflectlite.Value.IsNil" 0) ReflectliteValue.isNil) hn ho (by refine⟨?_,?_,?_,?_,?_⟩ <;> kernel_rfl) fun F a=>tm_vmethod TmC.out (fun _ _ _ _=>TmC.out) a
 ·exact ext_row (e:=ReflectliteValue.method (ReflectliteValue.valueError "reflectlite.Value.Elem" 0) ReflectliteValue.elem) hn ho (by refine⟨?_,?_,?_,?_,?_⟩ <;> kernel_rfl) fun F a=>tm_vmethod TmC.out (fun _ _ _ _=>TmC.out) a
 ·exact ext_row (e:=ReflectliteValue.set) hn ho (by refine⟨?_,?_,?_,?_,?_⟩ <;> kernel_rfl) fun F a=>tm_vset a
 ·exact ext_row (e:=ReflectliteType.abiMethod fun t=>do pure (.int .u8 (<-Rtype.kind t))) hn ho (by refine⟨?_,?_,?_,?_,?_⟩ <;> kernel_rfl) fun F a=>tm_abiMethod (fun _=>Tm.bind (Q:=fun _=>True) TmC.out fun _ _=>tm_pure trivial) a
 ·exact ext_row (e:=ReflectliteType.relation "AssignableTo" ReflectliteType.assignableTo) hn ho (by refine⟨?_,?_,?_,?_,?_⟩ <;> kernel_rfl) fun F a=>tm_relation (fun _ _=>TmC.out) a
 ·exact ext_row (e:=ReflectliteType.method fun t=>do noPackHeld "Comparable" t;pure (.bool (<-typeInfo t).comparable)) hn ho (by refine⟨?_,?_,?_,?_,?_⟩ <;> kernel_rfl) fun F a=>tm_rmethod (fun _=>Tm.bind (Q:=fun _=>True) TmC.out fun _ _=>Tm.bind (Q:=fun _=>True) TmC.out fun _ _=>tm_pure trivial) a
 ·exact ext_row (e:=ReflectliteType.method ReflectliteType.elem) hn ho (by refine⟨?_,?_,?_,?_,?_⟩ <;> kernel_rfl) fun F a=>tm_rmethod (fun _=>TmC.out) a
 ·exact ext_row (e:=ReflectliteType.relation "Implements" ReflectliteType.implements_) hn ho (by refine⟨?_,?_,?_,?_,?_⟩ <;> kernel_rfl) fun F a=>tm_relation (fun _ _=>TmC.out) a
end
section
open Go Go.Conc Go.RowKit
def keepO:Obj->Bool
 | .cells .. | .map .. | .stringIter .. | .mapIter .. | .number ..=>true
 | _=>false
def layO(k:Nat):Obj->Obj
 | .view _ t=>.view ⟨k,0,none⟩ t
 | o=>if keepO o then o else .coro none
def layW(W:World):World:={W with heap:=W.heap.mapIdx layO}
def aside(W:World)(k:Nat):Prop:=∃ o,W.heap[k]?=some o/\keepO o=false
theorem layW_get(W:World)(k:Nat):(layW W).heap[k]?=W.heap[k]?.map (layO k):=by
 unfold layW
 rw[Array.getElem?_mapIdx]
theorem layW_size(W:World):(layW W).heap.size=W.heap.size:=by
 unfold layW
 simp
theorem layO_keep{k:Nat}{o:Obj}(h:keepO o=true):layO k o=o:=by
 cases o <;> first | rfl | (simp[keepO]at h)
theorem lay_sim(W:World):Sim (aside W) (layW W) W:=by
 refine⟨rfl,(layW_size W).symm,fun k hk=>?_,fun k ⟨o,ho,hko⟩=>?_⟩
 ·rw[layW_get]
  cases ho:W.heap[k]? with
  | none=>rfl
  | some o=>
    have:keepO o=true:=by
     cases h:keepO o with
     | true=>rfl
     | false=>exact absurd ⟨o,ho,h⟩ hk
    rw[Option.map_some,layO_keep this]
 ·cases o <;> first
   | (simp[keepO]at hko;done)
   | exact .inr ⟨_,_,by rw[layW_get,ho];rfl,ho⟩
   | exact .inl ⟨.coro none,_,by rw[layW_get,ho];rfl,ho,.inl ⟨rfl,trivial⟩⟩
theorem lay_clean{cl:Loop->Prop}(W:World):CleanH cl (layW W):=fun k o ho=>by
 rw[layW_get,Option.map_eq_some_iff]at ho
 obtain⟨x,_,rfl⟩:=ho
 cases x <;> first
  | exact .inl trivial
  | exact .inr ⟨_,rfl⟩
structure Lies(W w':World):Prop where
 os:w'.os=W.os
 output:w'.output=W.output
 size:W.heap.size<=w'.heap.size
 block:∀ k,k<W.heap.size->w'.heap[k]?=W.heap[k]?
theorem ring_start(R:Program)(a:Goroutine)(W:World)(B:Nat):Ring R (fun _=>True) (fun _=>False) B (Mm fun _=>none) (fun _=>none) 0 #[] #[a] W (fun _=>0):=by
 have e:(Mm fun _=>none)=fun g=>g=0:=by
  funext i
  simp[Mm]
 rw[e]
 exact ring_begin (fun _ z=>z.elim) (leavers_one _ _) (past_nil.mono (Nat.zero_le _)) trivial
theorem run_of{f:FuncId}{fn:Func}(hf:gP.funcs[f]?=some fn)(hk:okFunc gP gE fn=true)(hfD:f≠dD)(hini:Tryz.prog.inits.idxOf? f=none)(args:Array Value)(W:World)
  (hC:∀ τ,Calls Tryx.prog f args (onT (layW W) τ (layW W).drawn) fun e w=>e=.returned (.bool true)/\Below (layW W).heap.size (onT (layW W) τ (layW W).drawn) w):
  ∃ M last o w' t',runNT Tryz.prog (M+1) (solo (G (Frame.enter Tryz.prog f args .normal) []) W) #[]=(.ended o w',t')/\
    runN Tryz.prog M (solo (G (Frame.enter Tryz.prog f args .normal) []) W)=.next last/\step Tryz.prog last=.ended o w'/\Conc.Good Tryz.prog (fun v w'=>v=.bool true/\Lies W w') last o w' t':=by
 have hI:Inev gP gE f (fun v w=>v=.bool true/\Lies (layW W) w) (Frame.enter gP f args .normal) [] (layW W):=by
  refine inevitable (R:= "fmt's door") gExt alike (by kernel_rfl) (by kernel_rfl) hf hk (lay_clean W) fun τ _=>?_
  rw[Tryx.mask]
  exact (hC τ).mono fun e w ⟨h1,h2⟩=>⟨_,h1,rfl,h2.os,h2.output,h2.size,h2.block⟩
 have hen:Frame.enter gP f args .normal=Frame.enter Tryz.prog f args .normal:=by
  unfold Frame.enter
  rw[gP_ne hfD]
 have hstart:Co Tryz.prog (fun _=>none) (aside W) 1 (Frame.enter gP f args .normal) [] (layW W) W (solo (G (Frame.enter Tryz.prog f args .normal) []) W) #[]:=
  ⟨⟨#[mkG (Frame.enter gP f args .normal) []],none,fun _=>0,0,by rw[hen];rfl,rfl,rfl,ring_start _ _ _ _⟩,lay_sim W,(fun i s c e=>by cases e),rfl,fun _ _=>rfl⟩
 obtain⟨fr',u',J',n',W',m',T',hAt,hfn,⟨N,hrun⟩,hCo,hJ,hKp⟩:=whole gExt alike (drive_fw gExt) hfD hI (by simp[Bas,Frame.enter]) _ _ _ _ _ _ hstart
 obtain⟨hok,hcl,hm,hd,fn',τ,v,hfn',hres,rfl,hlies⟩:=hAt
 obtain⟨gs,sl,q,B,rfl,hsz,hg,hR⟩:=hCo.ex
 obtain⟨L,Pp⟩:=ring_end hR (.inr rfl) (fun _ _=>rfl)
 have hreal:Tryz.prog.funcs[fr'.fn]?=some fn':=by
  rw[<-hfn',hfn]
  exact (gP_ne hfD).symm
 have hend:∀ d,∃ es,stepG Tryz.prog true (mkG fr' []) (W'.at d)=.ended (.done (.bool true)) (W'.at d) es/\∀ e∈es,EvOk W'.heap.size e:=fun d=>by
  have s3:=TameS.sound (X:=ofF gP Tryz.prog.funcs) (own:=False) (.inr ⟨rfl,id⟩) (tm_results (P:=gP) (F:=Tryz.prog.funcs) (E:=gE) fn' fr'.tmps fun _=>False) (onT u' τ u'.drawn) hcl fun k h=>h.elim
  rw[hres]at s3
  obtain⟨n,hn,hmm⟩:=(s3.2.2.resolve_left fun h=>h.2).out
  have hn0:n=0:=by
   have:(onT u' τ u'.drawn).drawn=(onT u' τ u'.drawn).drawn+n:=hn
   omega
  subst hn0
  obtain⟨W1,es1,e,hS1,ho,hu,hJk,hz,hev⟩:=hmm J' W' W'.tape d #[] (hCo.sim.of_heap rfl rfl rfl rfl) fun i hi=>by omega
  have hW1:onT W1 W'.tape (d+0)=W'.at d:=by
   refine (world_eq (u1:=W') ⟨ho,?_,fun k _=>?_,fun k h=>h.elim⟩ hu).trans rfl
   ·rw[hS1.size,hCo.sim.size];rfl
   ·by_cases hk:J' k
    ·exact hJk k hk
    ·exact (hS1.same k hk).trans (hCo.sim.same k hk).symm
  rw[hW1]at e
  have e:(results fn' fr'.tmps).runT Tryz.prog (W'.at d) #[]=(.ok (.bool true) (W'.at d),#[] ++ es1):=e
  have hmr:fr'.mode≠.run:=by rw[hm];simp
  have hst:stepG Tryz.prog true (mkG fr' []) (W'.at d)=unwind Tryz.prog true fr' [] none (W'.at d):=unwind_stp (frs:=[]) hmr Tryz.prog [] (W'.at d)
  have hsz1:W1.heap.size=W'.heap.size:=by rw[hS1.size,hCo.sim.size];rfl
  refine⟨seen Tryz.prog fr'.fn (#[] ++ es1) ++ #[],?_,fun x hx=>?_⟩
  ·rw[hst,unwind]
   simp only[hd,hm,hreal,e,doReturn,hok.kind]
   rw[hfn,hini]
   rfl
  ·have:=mem_seen (by simpa using hx)
   rw[<-hsz1]
   exact hev x (by simpa using this)
 have hlies':∀ d,Lies W (W'.at d):=fun d=>by
  refine⟨hKp.os,hKp.output,?_,fun k hk=>?_⟩
  ·have:=hlies.size
   rw[layW_size]at this
   show W.heap.size<=W'.heap.size
   rw[hCo.sim.size]
   exact this
  ·show W'.heap[k]?=W.heap[k]?
   by_cases ha:aside W k
   ·exact hKp.block k ha
   ·have h1:u'.heap[k]?=W.heap[k]?:=by
     have h1:=hlies.block k (by rw[layW_size];exact hk)
     exact (show u'.heap[k]?=(layW W).heap[k]? from h1).trans ((lay_sim W).same k ha).symm
    obtain⟨o,ho⟩:∃ o,W.heap[k]?=some o:=⟨_,Array.getElem?_eq_getElem hk⟩
    have hko:keepO o=true:=by
     cases h:keepO o with
     | true=>rfl
     | false=>exact absurd ⟨o,ho,h⟩ ha
    rcases hCo.sim.at k with h2 |⟨z,x,h2,_,h3⟩ |⟨t,a,h2,_⟩
    ·exact h2.trans h1
    ·rw[h1,ho]at h2
     obtain rfl:=Option.some.inj h2
     rcases h3 with ⟨rfl,_⟩ |⟨rfl,_⟩ <;> cases hko
    ·rw[h1,ho]at h2
     obtain rfl:=Option.some.inj h2
     cases hko
 obtain⟨M8,last,o,w',t',e1,e2,e3,e4⟩:=beside_ends (P:=Tryz.prog) (Shun:=fun _=>False) (B:=max B W'.heap.size) (D:=fun _ _ _=>False) (Post:=fun v w'=>v=.bool true/\Lies W w') (sl:=sl) (n:=0) (w:=W') (fun _ _ _ h=>h.elim) hg L (Pp.mono (Nat.le_max_left _ _))
  (fun w1 hw1=>by
    obtain⟨d,rfl⟩:=hw1
    obtain⟨es,h1,h2⟩:=hend d
    refine⟨rfl,_,es,h1,fun e he=>?_,rfl,hlies' d⟩
    have:=evHd_of (h2 e he) (Nat.le_max_right B _)
    exact⟨fun x _ h=>h.elim,this.2.1,this.2.2.1,this.2.2.2⟩)
 refine⟨N+M8,last,o,w',t',?_,?_,e3,e4⟩
 ·rw[Nat.add_assoc,runNT_add]
  have hrun:runNT Tryz.prog N (solo (G (Frame.enter Tryz.prog f args .normal) []) W) #[]=_:=hrun
  rw[hrun]
  exact e1
 ·have hrun:runNT Tryz.prog N (solo (G (Frame.enter Tryz.prog f args .normal) []) W) #[]=_:=hrun
  rw[runN_add,<-runNT_fst Tryz.prog _ _ #[],hrun]
  exact e2
#print axioms run_of
end
section
open Go.ChangeShapes Go.WideShapes Go.RowKit
theorem leaving_of_change_and{H:Type}{enc:TypeId×Value->H}{a:Assume}{C:Checked}{os:Os}{f:FuncId}{fn:Func}{s:ChangeSpec}{conds:List PathCond}{apart fresh handsOn again:Bool}{X:World->Array Value->Prop}
  (hX:∀ (w w':World) (args:Array Value),w.heap=w'.heap->X w args->X w' args)
  (own:ownKnob C.prog.godebug=none) (started:os.Started) (hfn:C.prog.funcs[f]?=some fn)
  (witness:∃ (w:World) (tape:Tape) (i:Input),w.os=os/\(w.forCall tape i).Shaped C.prog/\i.vars=[]/\Input.okWide C.prog (w.forCall tape i) .any w.heap.size f i/\
    ((s.pre enc C.prog fn conds apart (w.forCall tape i).memory i.args/\X (w.forCall tape i).memory i.args)/\sizedMet enc C.prog fn (OpenSpec.ofChange s) apart (w.forCall tape i).memory i.args)/\a.holds C.prog (lone (Frame.enter C.prog f i.args .normal) [] (w.forCall tape i)))
  (runs:∀ (W:World) (base:Nat) (args:Array Value) (ds gs:List (DataW H)) (before:List MemPlace),
    (∀ (j:Nat) t v,fn.params[j]?=some t->args[j]?=some v->Value.okWide C.prog W .any base t v)->
    DataW.Whole enc C.prog fn.params.toList s.vars apart W args.toList ds gs before->
    (DataW.weightsEach C.prog (fn.params.toList ++ s.plain.varTypes C.prog) (ds ++ gs)).all (·<=reachBytes)=true->X W args->
    ∃ M last o w' t',runNT C.prog (M+1) (Conc.solo (Conc.G (Frame.enter C.prog f args .normal) []) W) #[]=(.ended o w',t')/\runN C.prog M (Conc.solo (Conc.G (Frame.enter C.prog f args .normal) []) W)=.next last/\
      step C.prog last=.ended o w'/\Conc.Good C.prog (fun v W'=>s.post enc C.prog fn apart fresh handsOn again W args v W') last o w' t'):
  ReturnsInLeavingWide a C os f .any (fun w args=>(s.pre enc C.prog fn conds apart w args/\X w args)/\sizedMet enc C.prog fn (OpenSpec.ofChange s) apart w args) (s.post enc C.prog fn apart fresh handsOn again):=by
 refine returnsInLeavingWide_of_good own started witness ?_
 intro w tape i _ _ _ hok hpre hholds
 obtain⟨_,_,_,fn',hfn',_,_,_,_,hval⟩:=hok
 have e:fn'=fn:=Option.some.inj (hfn'.symm.trans hfn)
 subst e
 obtain⟨⟨⟨ds,gs,before,hw,hc⟩,hx⟩,hz⟩:=hpre
 have hw':=DataW.Whole.of_heap (w':=w.forCall tape i) (by rfl) hw
 obtain⟨M,last,o,w',t',h1,h2,h3,h4⟩:=runs (w.forCall tape i) w.heap.size i.args ds gs before hval hw' (hz.weights hw) (hX _ _ _ (by rfl) hx)
 exact⟨M,last,o,w',t',h1,h2,h3,Conc.Good.mono h4 fun v hp=>ChangeSpec.post_blind hp⟩
theorem Lies.frame{W w':World}(h:Lies W w')(may:MemPlace->Prop):W.keptBut w' may:=by
 refine⟨h.os,h.output,fun i hi=>?_⟩
 rw[h.block i hi]
 split <;> simp_all
theorem card_of(Lk:Looks){p:Pinned}{s:OpenSpec}{c:OpenClaim}(kinds:List LaidKind)(tests:Bool)(har:Bool×String)(lk:Bool)(g:Bool)
  (hc:c.holds p s) (hw:c.wfByText s=true) (htie:c.laidByTextAt Lk p kinds tests)
  (hst:c.start=.entering) (hnb:c.noBlocks=false/\c.again=false) (hm:p.checked.prog.mainIs=some (har.1,har.2.toList)) (hn:(!har.1 && har.2.isEmpty && !lk)=false)
  (hl:∀ f fn,p.checked.prog.funcNamed c.func=some f->p.checked.prog.funcs[f]?=some fn->lk=p.checked.prog.looks []/\∀ (j:Nat) t,fn.params[j]?=some t->p.checked.prog.wantsStandIn t=false)
  (hg:g=c.goesBy p.checked.prog):
  Claim7.holds p (.plain s) {stood:={row:=c,standIns:=[],harness:=har,looks:=lk},kinds:=[],alts:=[],goes:=g,laidByText:=true,laidKinds:=kinds,laidTests:=tests,laidLooks:=Lk}:=by
 have h6:∀ r:OpenClaim,Claim7.isSixth {stood:={row:=r,standIns:=[],harness:=har,looks:=lk},kinds:=[]}=false:=fun r=>by simpa[Claim7.isSixth]using hn
 exact⟨Claim7.tied_new_at Lk kinds tests (Claim7.new_of_sixth hc har lk hst hnb hm (h6 c) hl) hw,(fun D hD=>by cases hD),htie,(fun h=>by cases h),hg⟩
end
end Go.Proofs.YticobikhndlejaaGreatDoor
