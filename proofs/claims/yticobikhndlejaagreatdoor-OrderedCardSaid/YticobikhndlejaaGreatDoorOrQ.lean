/- Part 17 of the proof (see the last part). -/
import Derived.Test.YticobikhndlejaaGreatDoorOrP
namespace Go.Proofs.YticobikhndlejaaGreatDoor
section
def St.dnext(f:Nat->Bool)(n:Nat)(t:St):Option (Nat×St):=
 match t.cmd with
 | some c=>some (n,t.sent c)
 | none=>
   match t.cs with
   | _ :: _=>(t.complete 0 (f n)).map fun t'=>(n+1,t')
   | []=>if t.waiting=[]then none else some (n,t.tick)
def mR(now:Int)(r:Req):Nat:=if r.inAir then (4 - r.tries).toNat*20+9 else if r.state=0 then (4 - r.tries).toNat*20+10+(r.after - now).toNat else 0
def St.mu(t:St):Nat:=(t.rs.map (mR t.now)).sum
theorem sum_map_le(g h:Req->Nat):∀ (l:List Req),(∀ r∈l,g r<=h r)->(l.map g).sum<=(l.map h).sum
 | [],_=>Nat.le_refl _
 | r :: l,hl=>by
   have h1:=hl r (by simp)
   have h2:=sum_map_le g h l fun x hx=>hl x (by simp[hx])
   simp only[List.map_cons,List.sum_cons];omega
theorem sum_map_lt(g h:Req->Nat):∀ (l:List Req),(∀ r∈l,g r<=h r)->(∃ r∈l,g r<h r)->(l.map g).sum<(l.map h).sum
 | [],_,⟨r,hr,_⟩=>by cases hr
 | r :: l,hl,⟨x,hx,hlt⟩=>by
   have h1:=hl r (by simp)
   have h2:=sum_map_le g h l fun x hx=>hl x (by simp[hx])
   simp only[List.map_cons,List.sum_cons]
   rcases List.mem_cons.1 hx with rfl | hx
   ·omega
   ·have h3:=sum_map_lt g h l (fun x hx=>hl x (by simp[hx])) ⟨x,hx,hlt⟩
    omega
theorem sum_filter_le(g:Req->Nat)(p:Req->Bool):∀ (l:List Req),((l.filter p).map g).sum<=(l.map g).sum
 | []=>Nat.le_refl _
 | r :: l=>by
   have h:=sum_filter_le g p l
   rw[List.filter_cons]
   split
   ·simp only[List.map_cons,List.sum_cons];omega
   ·simp only[List.map_cons,List.sum_cons];omega
theorem sum_le_mul(g:Req->Nat)(b:Nat):∀ (l:List Req),(∀ r∈l,g r<=b)->(l.map g).sum<=l.length*b
 | [],_=>by simp
 | r :: l,hl=>by
   have h1:=hl r (by simp)
   have h2:=sum_le_mul g b l fun x hx=>hl x (by simp[hx])
   simp only[List.map_cons,List.sum_cons,List.length_cons,Nat.add_mul];omega
theorem mu_le{t:St}(h:t.Ok)(hs:t.Soon):t.mu<=t.rs.length*98:=by
 refine sum_le_mul _ _ _ fun r hr=>?_
 have h1:=(h.a.rs.ok r hr).tries
 have h2:=hs r hr
 unfold mR
 split
 ·omega
 ·split <;> omega
theorem sent_mu{t:St}(h:t.Ok){c:Cmd}(hc:t.cmd=some c):(t.sent c).mu<t.mu:=by
 obtain⟨hlt,f,l,hsel,hw,hn⟩:=cmd_some h.a.head hc
 have hs:=h.a.rs.nums
 have hin:∀ r∈t.rs,r.num∈c.nums->mR t.now (sentR r)<mR t.now r:=fun r hr hm=>by
  rw[hn]at hm
  have hx:=hsel.numsIn hs hr hm
  obtain⟨h1,h2,h3,h4⟩:=mem_readyR (hsel.mem r hx).1
  have hk:=h.a.rs.ok r hr
  have hair:r.inAir=false:=by
   cases ha:r.inAir with
   | false=>rfl
   | true=>have:=hk.air ha;omega
  have h5:=hk.tries
  unfold mR sentR
  simp only[hair,h2,if_true,Bool.false_eq_true,if_false]
  omega
 show (((t.rs.map fun r=>if r.num∈c.nums then sentR r else r)).map (mR t.now)).sum<(t.rs.map (mR t.now)).sum
 rw[List.map_map]
 refine sum_map_lt _ _ _ (fun r hr=>?_) ?_
 ·simp only[Function.comp]
  split
  ·rename_i hm;exact Nat.le_of_lt (hin r hr hm)
  ·exact Nat.le_refl _
 ·have hfm:f∈f :: l:=by simp
  have hfr:=(mem_readyR (hsel.mem f hfm).1).1
  have hfn:f.num∈c.nums:=by rw[hn];simp
  refine⟨f,hfr,?_⟩
  simp only[Function.comp,if_pos hfn]
  exact hin f hfr hfn
theorem landR_mu{r:Req}(hk:ROk r)(ha:r.inAir=true)(now:Int)(disk:List Int)(fault:Bool):mR now (St.landR now disk fault r)<mR now r:=by
 have h1:=hk.try3 (by simp[Req.live,ha])
 have h2:=hk.tries
 have h3:=hk.air ha
 have hm:mR now r=(4 - r.tries).toNat*20+9:=by unfold mR;rw[if_pos ha]
 have hf:=(landR_num now disk fault r).2.2.2.1
 rw[hm]
 unfold mR
 rw[hf]
 simp only[Bool.false_eq_true,if_false]
 unfold St.landR
 simp only
 split
 ·split
  ·simp only[show ¬((2:Int)=0) by decide,if_false];omega
  ·split
   ·simp only[show ¬((3:Int)=0) by decide,if_false];omega
   ·simp only[if_true];omega
 ·simp only
  have:¬r.state=0:=by omega
  rw[if_neg this];omega
theorem land_mu{t:St}{n:Int}{air:List Int}(h:t.OkA (n :: air))(fault:Bool):(t.land fault n).mu<t.mu:=by
 obtain⟨r,hr,hn,ha⟩:=h.rs.fly n (by simp)
 subst hn
 have hf:=find_num h.rs.nums hr
 unfold St.land
 rw[hf]
 show ((((t.rs.map fun x=>if x.num=r.num then St.landR t.now t.disk fault x else x).filter _)).map (mR t.now)).sum<(t.rs.map (mR t.now)).sum
 refine Nat.lt_of_le_of_lt (sum_filter_le _ _ _) ?_
 rw[List.map_map]
 have hlt:=landR_mu (h.rs.ok r hr) ha t.now t.disk fault
 refine sum_map_lt _ _ _ (fun x hx=>?_) ⟨r,hr,by simp only[Function.comp,if_true];exact hlt⟩
 simp only[Function.comp]
 split
 ·rename_i hh
  obtain rfl:=rnum_inj h.rs.nums hx hr hh
  exact Nat.le_of_lt hlt
 ·exact Nat.le_refl _
theorem lands_mu(fault:Bool):∀ (ns:List Int) (t:St) (air:List Int),t.OkA (ns ++ air)->(ns.foldl (St.land fault) t).mu<=t.mu/\(ns≠[]->(ns.foldl (St.land fault) t).mu<t.mu)
 | [],_,_,_=>⟨Nat.le_refl _,fun h=>absurd rfl h⟩
 | n :: ns,t,air,h=>by
   have h1:=land_mu (t:=t) (n:=n) (air:=ns ++ air) h fault
   have h2:=(lands_mu fault ns (t.land fault n) air (okA_land h fault)).1
   simp only[List.foldl_cons]
   exact⟨by omega,fun _=>by omega⟩
theorem okA_cut{t:St}(h:t.Ok){k:Nat}{c:Cmd}(hck:t.cs[k]?=some c):({t with cs:=t.cs.eraseIdx k}:St).OkA (c.nums ++ ((t.cs.eraseIdx k).flatMap (·.nums))):=by
 obtain⟨hl,e⟩:=List.getElem?_eq_some_iff.1 hck
 have hp:(t.cs.flatMap (·.nums)).Perm (c.nums ++ (t.cs.eraseIdx k).flatMap (·.nums)):=by
  have:=(perm_erase hl e).flatMap_right (·.nums)
  simpa using this
 refine⟨h.a.depth,h.a.head,h.a.dlen,h.a.dbyte,h.a.last,h.a.now,⟨h.a.rs.nums,h.a.rs.num,h.a.rs.ok,hp.nodup h.a.rs.nodup,fun n hn=>h.a.rs.fly n (hp.mem_iff.2 hn),fun r hr ha=>hp.mem_iff.1 (h.a.rs.airs r hr ha),h.a.rs.free⟩,h.a.held,h.a.h40,h.a.soon⟩
theorem complete_mu{t t':St}(h:t.Ok){k:Nat}{fault:Bool}(hc:t.complete k fault=some t'):t'.mu<t.mu:=by
 unfold St.complete at hc
 cases hk:t.cs[k]? with
 | none=>rw [hk]at hc;cases hc
 | some c=>
   rw[hk]at hc
   simp only[Option.some.injEq]at hc
   subst hc
   have hok:=h.cmds c (List.mem_of_getElem? hk)
   have:=(lands_mu fault c.nums _ _ (okA_cut h hk)).2 (fun e=>by have:=hok.len;have:=hok.count;rw[e]at *;simp at *;omega)
   exact this
theorem waiting_min:∀ (l:List Req),(l.filter fun r=>r.state == 0)≠[]->l.Pairwise (·.num < ·.num)->∃ r∈l,r.state=0/\∀ o∈l,o.state=0->r.num<=o.num
 | [],h,_=>absurd rfl h
 | r :: l,h,hs=>by
   rw[List.pairwise_cons]at hs
   by_cases h0:r.state=0
   ·refine⟨r,by simp,h0,fun o ho _=>?_⟩
    rcases List.mem_cons.1 ho with rfl | ho
    ·exact Int.le_refl _
    ·have:=hs.1 o ho;omega
   ·rw[List.filter_cons_of_neg (by simpa using h0)]at h
    obtain⟨x,h1,h2,h3⟩:=waiting_min l h hs.2
    refine⟨x,by simp[h1],h2,fun o ho hz=>?_⟩
    rcases List.mem_cons.1 ho with rfl | ho
    ·exact absurd hz h0
    ·exact h3 o ho hz
theorem idle_later{t:St}(h:t.Ok)(hc:t.cmd=none)(hcs:t.cs=[])(hw:t.waiting≠[]):∃ r∈t.rs,r.state=0/\r.inAir=false/\t.now<r.after:=by
 have hne:(t.rs.filter fun r=>r.state == 0)≠[]:=fun e=>hw (by unfold St.waiting;rw[e];rfl)
 obtain⟨r,hr,h0,hmin⟩:=waiting_min t.rs hne h.a.rs.nums
 have hair:∀ o∈t.rs,o.inAir=false:=fun o ho=>by
  cases ha:o.inAir with
  | false=>rfl
  | true=>
    have:=h.a.rs.airs o ho ha
    rw[hcs]at this
    simp at this
 refine⟨r,hr,h0,hair r hr,?_⟩
 rcases cmd_none h.a.head hc with hd | hp
 ·have:=h.a.depth
  rw[hcs]at hd
  simp at hd;omega
 ·have hpg:=(h.a.rs.ok r hr).page
  refine Int.not_le.1 fun hle=>?_
  have hmem:=ready_mem (now:=t.now) hr hpg h0 hle fun o ho=>by
   cases hb:o.blocks r with
   | false=>rfl
   | true=>
     have hl:=blocks_live hb
     have ho0:o.state=0:=by simpa[Req.live,hair o ho]using hl
     have:=hmin o ho ho0
     unfold Req.blocks at hb
     simp only[Bool.and_eq_true,decide_eq_true_eq]at hb
     omega
  have:=hp r.page.toNat (by omega)
  have hin:r∈pageR (readyR t.now t.rs) r.page.toNat:=List.mem_filter.2 ⟨hmem,by simp;omega⟩
  rw[this]at hin
  cases hin
theorem tick_mu{t:St}(h:t.Ok)(hc:t.cmd=none)(hcs:t.cs=[])(hw:t.waiting≠[]):t.tick.mu<t.mu:=by
 obtain⟨r,hr,h0,ha,hlt⟩:=idle_later h hc hcs hw
 show (t.rs.map (mR (t.now+1))).sum<(t.rs.map (mR t.now)).sum
 refine sum_map_lt _ _ _ (fun x _=>?_) ⟨r,hr,?_⟩
 ·unfold mR
  split
  ·exact Nat.le_refl _
  ·split
   ·omega
   ·exact Nat.le_refl _
 ·unfold mR
  rw[if_neg (by rw[ha];simp),if_pos h0,if_neg (by rw[ha];simp),if_pos h0]
  omega
theorem dnext_cases{f:Nat->Bool}{n:Nat}{t:St}{n':Nat}{t':St}(h:t.dnext f n=some (n',t')):
  (∃ c,t.cmd=some c/\n'=n/\t'=t.sent c)\/(t.cmd=none/\0<t.cs.length/\n'=n+1/\t.complete 0 (f n)=some t')\/(t.cmd=none/\t.cs=[]/\t.waiting≠[]/\n'=n/\t'=t.tick):=by
 unfold St.dnext at h
 cases hc:t.cmd with
 | some c=>
   rw[hc]at h
   simp only[Option.some.injEq,Prod.mk.injEq]at h
   exact .inl ⟨c,rfl,h.1.symm,h.2.symm⟩
 | none=>
   rw[hc]at h
   cases hcs:t.cs with
   | cons c l=>
     rw[hcs]at h
     simp only[Option.map_eq_some_iff,Prod.mk.injEq]at h
     obtain⟨x,h1,h2,h3⟩:=h
     subst h3
     exact .inr (.inl ⟨rfl,by simp,h2.symm,h1⟩)
   | nil=>
     rw[hcs]at h
     simp only at h
     split at h
     ·cases h
     ·rename_i hw
      simp only[Option.some.injEq,Prod.mk.injEq]at h
      exact .inr (.inr ⟨rfl,rfl,hw,h.1.symm,h.2.symm⟩)
theorem dnext_none{f:Nat->Bool}{n:Nat}{t:St}(h:t.dnext f n=none):t.cmd=none/\t.cs=[]/\t.waiting=[]:=by
 unfold St.dnext at h
 cases hc:t.cmd with
 | some c=>rw [hc]at h;cases h
 | none=>
   rw[hc]at h
   cases hcs:t.cs with
   | cons c l=>
     rw[hcs]at h
     simp[St.complete,hcs]at h
   | nil=>
     rw[hcs]at h
     simp only at h
     split at h
     ·rename_i hw;exact⟨rfl,rfl,hw⟩
     ·cases h
structure DStep(n:Nat)(t:St)(n':Nat)(t':St):Prop where
 ok:t'.Ok
 soon:t'.Soon
 mu:t'.mu<t.mu
 last:t'.last=t.last
 depth:t'.depth=t.depth
 held:t'.held=t.held
 now:t.now<=t'.now/\t'.now<=t.now+1
 cnt:n<=n'/\n'<=n+1
theorem dnext_step{f:Nat->Bool}{n:Nat}{t:St}{n':Nat}{t':St}(hk:t.Ok)(hs:t.Soon)(h:t.dnext f n=some (n',t')):DStep n t n' t':=by
 rcases dnext_cases h with ⟨c,hc,rfl,rfl⟩ |⟨hc,hcs,rfl,hco⟩ |⟨hc,hcs,hw,rfl,rfl⟩
 ·exact⟨ok_sent hk hc,sent_soon hs c,sent_mu hk hc,rfl,rfl,rfl,⟨Int.le_refl _,by show t.now<=t.now+1;omega⟩,by omega⟩
 ·obtain⟨a1,a2,a3⟩:=complete_same hco
  refine⟨ok_complete hk hco,complete_soon hs hco,complete_mu hk hco,a1,?_,a3,by omega,by omega⟩
  unfold St.complete at hco
  split at hco
  ·cases hco
  ·simp only[Option.some.injEq]at hco
   rw[<-hco]
   exact (lands_same (f n) _ _).1
 ·exact⟨ok_tick hk,tick_soon hs,tick_mu hk hc hcs hw,rfl,rfl,rfl,by simp only[St.tick];omega,by omega⟩
def St.driveN(f:Nat->Bool):Nat->Nat->St->Nat×St
 | 0,n,t=>(n,t)
 | k+1,n,t=>match t.dnext f n with
   | none=>(n,t)
   | some (n',t')=>St.driveN f k n' t'
theorem driveN_more{f:Nat->Bool}:∀ (k:Nat) (n:Nat) (t:St),t.Ok->t.Soon->t.mu<k->∀ j,k<=j->St.driveN f j n t=St.driveN f k n t
 | 0,_,_,_,_,h,_,_=>absurd h (Nat.not_lt_zero _)
 | k+1,n,t,hk,hs,h,j,hj=>by
   cases j with
   | zero=>omega
   | succ j=>
     unfold St.driveN
     cases hd:t.dnext f n with
     | none=>rfl
     | some x=>
       obtain⟨n',t'⟩:=x
       have hst:=dnext_step hk hs hd
       simp only
       have:=hst.mu
       exact driveN_more k n' t' hst.ok hst.soon (by omega) j (by omega)
def St.drive(f:Nat->Bool)(n:Nat)(t:St):Nat×St:=St.driveN f (t.mu+1) n t
theorem drive_end{f:Nat->Bool}{n:Nat}{t:St}(h:t.dnext f n=none):t.drive f n=(n,t):=by
 unfold St.drive St.driveN
 rw[h]
theorem drive_step{f:Nat->Bool}{n:Nat}{t:St}{n':Nat}{t':St}(hk:t.Ok)(hs:t.Soon)(h:t.dnext f n=some (n',t')):t.drive f n=t'.drive f n':=by
 have hst:=dnext_step hk hs h
 have:=hst.mu
 unfold St.drive
 conv=>lhs;unfold St.driveN
 rw[h]
 simp only
 exact driveN_more (t'.mu+1) n' t' hst.ok hst.soon (by omega) t.mu (by omega)
theorem drive_ind(P:Nat->St->Prop){f:Nat->Bool}(hP:∀ n t n' t',t.Ok->t.Soon->t.dnext f n=some (n',t')->P n t->P n' t'):∀ (k:Nat) (n:Nat) (t:St),t.mu<k->t.Ok->t.Soon->P n t->P (t.drive f n).1 (t.drive f n).2/\(t.drive f n).2.dnext f (t.drive f n).1=none/\(t.drive f n).2.Ok/\(t.drive f n).2.Soon
 | 0,_,_,h,_,_,_=>absurd h (Nat.not_lt_zero _)
 | k+1,n,t,h,hk,hs,hp=>by
   cases hd:t.dnext f n with
   | none=>rw [drive_end hd];exact⟨hp,hd,hk,hs⟩
   | some x=>
     obtain⟨n',t'⟩:=x
     have hst:=dnext_step hk hs hd
     have:=hst.mu
     rw[drive_step hk hs hd]
     exact drive_ind P hP k n' t' (by omega) hst.ok hst.soon (hP n t n' t' hk hs hd hp)
structure DriveEnd(t t':St):Prop where
 ok:t'.Ok
 soon:t'.Soon
 cmd:t'.cmd=none
 cs:t'.cs=[]
 waiting:t'.waiting=[]
 last:t'.last=t.last
 depth:t'.depth=t.depth
 held:t'.held=t.held
 now:t.now<=t'.now/\t'.now<=t.now+t.mu
theorem drive_spec{f:Nat->Bool}{n:Nat}{t:St}(hk:t.Ok)(hs:t.Soon):DriveEnd t (t.drive f n).2/\n<=(t.drive f n).1/\(t.drive f n).1<=n+t.mu:=by
 obtain⟨⟨h1,h2,h3,h4,h5,h6,h7⟩,hd,hok,hso⟩:=drive_ind (f:=f) (fun n' t'=>t'.last=t.last/\t'.depth=t.depth/\t'.held=t.held/\t.now<=t'.now/\t'.now+t'.mu<=t.now+t.mu/\n<=n'/\n'+t'.mu<=n+t.mu)
  (fun n1 t1 n2 t2 hk1 hs1 hd ⟨a1,a2,a3,a4,a5,a6,a7⟩=>by
    have hst:=dnext_step hk1 hs1 hd
    have b1:=hst.last;have b2:=hst.depth;have b3:=hst.held;have b4:=hst.now;have b5:=hst.cnt;have b6:=hst.mu
    refine⟨by omega,by omega,by omega,by omega,by omega,by omega,by omega⟩)
  (t.mu+1) n t (by omega) hk hs ⟨rfl,rfl,rfl,Int.le_refl _,Int.le_refl _,Nat.le_refl _,Nat.le_refl _⟩
 obtain⟨e1,e2,e3⟩:=dnext_none hd
 exact⟨⟨hok,hso,e1,e2,e3,h1,h2,h3,by omega⟩,h6,by omega⟩
theorem settled{t:St}(h:t.Ok)(hcs:t.cs=[])(hw:t.waiting=[]):∀ r∈t.rs,2<=r.state/\r.inAir=false:=fun r hr=>by
 have hair:r.inAir=false:=by
  cases ha:r.inAir with
  | false=>rfl
  | true=>
    have:=h.a.rs.airs r hr ha
    rw[hcs]at this
    simp at this
 have hk:=h.a.rs.ok r hr
 refine⟨?_,hair⟩
 have h0:r.state≠0:=fun h0=>by
  have:r.num∈t.waiting:=List.mem_map_of_mem (List.mem_filter.2 ⟨hr,by simp[h0]⟩)
  rw[hw]at this
  cases this
 have h1:r.state≠1:=fun h1=>by have:=hk.uair h1;rw[hair]at this;cases this
 have:=hk.st
 omega
end
section
open Go.RowKit Go.Shelf Go.Lib
def zero4:ByteArray:=bytesOf ⟨0,0,0,0⟩
def lastW(D:Nat->Bool)(rs:List KReq)(p:Int):Nat->ByteArray
 | 0=>zero4
 | k+1=>match rs[k]? with
   | none=>lastW D rs p k
   | some r=>if r.write=true/\r.page=p/\D k=true then r.data else lastW D rs p k
theorem lastW_succ(D:Nat->Bool)(rs:List KReq)(p:Int)(k:Nat):lastW D rs p (k+1)=match rs[k]? with
  | none=>lastW D rs p k
  | some r=>if r.write=true/\r.page=p/\D k=true then r.data else lastW D rs p k:=rfl
structure MInv(x:KW)(D:Nat->Bool):Prop where
 lt:∀ k,D k=true->k<x.rs.length
 disk:∀ p:Int,0<=p->p<16->bytesOf (dget x.t.disk p)=lastW D x.rs p x.rs.length
 ord:∀ o∈x.t.rs,o.live=true->∀ (k:Nat) r,D k=true->x.rs[k]?=some r->r.page=o.page->(r.write=true\/o.write=true)->(k:Int)+1<o.num
 one:∀ (k:Nat) r,x.rs[k]?=some r->r.how=1->D k=true
 no:∀ (k:Nat) r,x.rs[k]?=some r->r.how=2\/r.how=3->D k=false
 st:∀ (k:Nat) r,x.rs[k]?=some r->∀ o∈x.t.rs,o.num=(k:Int)+1->r.how≠1/\r.how≠2/\(r.how=3->o.inAir=false/\o.state=4)/\(o.state=2->D k=true)/\(o.state=0\/o.state=1\/o.state=3->D k=false)
 read:∀ (k:Nat) r,x.rs[k]?=some r->r.write=false->r.how=1->r.read=lastW D x.rs r.page k
 val:∀ (k:Nat) r,x.rs[k]?=some r->r.write=false->∀ o∈x.t.rs,o.num=(k:Int)+1->o.state=2->bytesOf o.data=lastW D x.rs r.page k
structure KLow(rs:List KReq)(t:St):Prop where
 last:t.last=rs.length
 page:∀ r∈rs,0<=r.page/\r.page<16
 same:∀ (k:Nat) r,rs[k]?=some r->∀ o∈t.rs,o.num=(k:Int)+1->o.write=r.write/\o.page=r.page/\(o.write=true->r.data=bytesOf o.data)
theorem KInv.low{x:KW}(h:KInv x):KLow x.rs x.t:=
 ⟨h.last,h.page,fun k r hk o ho hn=>h.same r (List.mem_of_getElem? hk) o ho (by have:=h.num k r hk;omega)⟩
theorem KLow.turn{rs:List KReq}{t t':St}(h:KLow rs t)(hl:t'.last=t.last)(ht:Tur t.rs t'.rs):KLow rs t':=
 ⟨hl.trans h.last,h.page,fun k r hk o ho hn=>by
   obtain⟨o0,h0,tu⟩:=ht.back o ho
   obtain⟨a,b,c⟩:=h.same k r hk o0 h0 (by rw[<-tu.num];exact hn)
   exact⟨tu.write.trans a,tu.page.trans b,fun hw=>by
    have hw0:o0.write=true:=by rw[<-tu.write];exact hw
    rw[tu.data hw0];exact c hw0⟩⟩
theorem lastW_eq{D D':Nat->Bool}{rs:List KReq}{p:Int}:∀ (n:Nat),(∀ (k:Nat) r,k<n->rs[k]?=some r->r.write=true->r.page=p->D' k=D k)->lastW D' rs p n=lastW D rs p n
 | 0,_=>rfl
 | k+1,h=>by
   have ih:=lastW_eq (D:=D) (D':=D') (rs:=rs) (p:=p) k fun j r hj=>h j r (by omega)
   unfold lastW
   cases hr:rs[k]? with
   | none=>exact ih
   | some r=>
     simp only
     by_cases hc:r.write=true/\r.page=p
     ·have:=h k r (by omega) hr hc.1 hc.2
      rw[this,ih]
     ·rw[if_neg (fun hh=>hc ⟨hh.1,hh.2.1⟩),if_neg (fun hh=>hc ⟨hh.1,hh.2.1⟩)]
      exact ih
theorem lastW_rs{D:Nat->Bool}{rs rs':List KReq}{p:Int}:∀ (n:Nat),n<=rs.length->(∀ (k:Nat) r,k<n->rs[k]?=some r->∃ r',rs'[k]?=some r'/\r'.write=r.write/\r'.page=r.page/\r'.data=r.data)->lastW D rs' p n=lastW D rs p n
 | 0,_,_=>rfl
 | k+1,hn,h=>by
   have ih:=lastW_rs (D:=D) (rs:=rs) (rs':=rs') (p:=p) k (by omega) fun j r hj=>h j r (by omega)
   have hr:rs[k]?=some rs[k]:=List.getElem?_eq_getElem (by omega)
   obtain⟨r',h1,h2,h3,h4⟩:=h k _ (by omega) hr
   unfold lastW
   rw[hr,h1]
   simp only[h2,h3,h4,ih]
theorem lastW_skip{D:Nat->Bool}{rs:List KReq}{p:Int}{m:Nat}:∀ (n:Nat),m<=n->(∀ (k:Nat) r,m<=k->k<n->rs[k]?=some r->r.write=true->r.page=p->D k=false)->lastW D rs p n=lastW D rs p m
 | 0,h,_=>by rw[show m=0 from by omega]
 | k+1,hm,h=>by
   by_cases he:m=k+1
   ·rw[he]
   ·have ih:=lastW_skip (D:=D) (rs:=rs) (p:=p) (m:=m) k (by omega) fun j r h1 h2=>h j r h1 (by omega)
    rw[<-ih]
    conv=>lhs;unfold lastW
    cases hr:rs[k]? with
    | none=>rfl
    | some r=>
      simp only
      rw[if_neg]
      rintro⟨h1,h2,h3⟩
      rw[h k r (by omega) (by omega) hr h1 h2]at h3
      cases h3
theorem dget_dput{d:List Int}{p q:Int}{b:B4}(hd:d.length=64)(hp:0<=p/\p<16)(hq:0<=q/\q<16):dget (dput d q b) p=if p=q then b else dget d p:=by
 obtain⟨i,rfl⟩:∃ i:Nat,p=i:=⟨p.toNat,by omega⟩
 obtain⟨j,rfl⟩:∃ j:Nat,q=j:=⟨q.toNat,by omega⟩
 have hi:i<16:=by omega
 have hj:j<16:=by omega
 unfold dget dput
 simp only[Int.toNat_natCast,List.getD_eq_getElem?_getD,List.getElem?_set,List.length_set,hd]
 by_cases he:i=j
 ·subst he
  rw[if_pos rfl]
  have h0:4*i<64:=by omega
  have h1:4*i+1<64:=by omega
  have h2:4*i+2<64:=by omega
  have h3:4*i+3<64:=by omega
  simp[h0,h1,h2,h3]
 ·rw[if_neg (show ¬((i:Int)=(j:Int)) by omega)]
  have e:∀ a c:Nat,a<4->c<4->¬(4*j+a=4*i+c):=fun a c _ _=>by omega
  have e00:=e 0 0 (by omega) (by omega);have e01:=e 0 1 (by omega) (by omega);have e02:=e 0 2 (by omega) (by omega);have e03:=e 0 3 (by omega) (by omega)
  have e10:=e 1 0 (by omega) (by omega);have e11:=e 1 1 (by omega) (by omega);have e12:=e 1 2 (by omega) (by omega);have e13:=e 1 3 (by omega) (by omega)
  have e20:=e 2 0 (by omega) (by omega);have e21:=e 2 1 (by omega) (by omega);have e22:=e 2 2 (by omega) (by omega);have e23:=e 2 3 (by omega) (by omega)
  have e30:=e 3 0 (by omega) (by omega);have e31:=e 3 1 (by omega) (by omega);have e32:=e 3 2 (by omega) (by omega);have e33:=e 3 3 (by omega) (by omega)
  simp only[Nat.add_zero]at e00 e01 e02 e03 e10 e20 e30
  simp only[e00,e01,e02,e03,e10,e11,e12,e13,e20,e21,e22,e23,e30,e31,e32,e33,if_false]
theorem mem_land{t:St}{n:Int}{air:List Int}(h:t.OkA (n :: air))(fault:Bool):
  ∃ o∈t.rs,o.num=n/\o.inAir=true/\(∀ y,y∈(t.land fault n).rs↔(y.num≠n/\y∈t.rs)\/(o.told=false/\y=St.landR t.now t.disk fault o))/\(t.land fault n).disk=St.landD t.disk fault o:=by
 obtain⟨o,ho,hn,ha⟩:=h.rs.fly n (by simp)
 subst hn
 have hf:=find_num h.rs.nums ho
 obtain⟨a1,a2,a3,a4,a5⟩:=landR_num t.now t.disk fault o
 refine⟨o,ho,rfl,ha,fun y=>?_,?_⟩
 ·unfold St.land
  rw[hf]
  simp only[List.mem_filter,List.mem_map]
  constructor
  ·rintro⟨⟨x,h1,h2⟩,h3⟩
   by_cases hx:x.num=o.num
   ·obtain rfl:=rnum_inj h.rs.nums h1 ho hx
    rw[if_pos rfl]at h2
    subst h2
    right
    rw[a1,a4,a5]at h3
    refine⟨?_,rfl⟩
    cases ht:x.told with
    | false=>rfl
    | true=>rw [ht]at h3;simp at h3
   ·rw[if_neg hx]at h2
    subst h2
    exact .inl ⟨hx,h1⟩
  ·rintro (⟨h1,h2⟩ |⟨h1,rfl⟩)
   ·exact⟨⟨y,h2,by rw[if_neg h1]⟩,by simp[h1]⟩
   ·exact⟨⟨o,ho,by rw[if_pos rfl]⟩,by rw[a5,h1];simp⟩
 ·unfold St.land
  rw[hf]
theorem minv_land{rs:List KReq}{t:St}{D:Nat->Bool}{n:Int}{air:List Int}(hk:t.OkA (n :: air))(hl:KLow rs t)(h:MInv ⟨rs,t⟩ D)(fault:Bool):∃ D',MInv ⟨rs,t.land fault n⟩ D':=by
 obtain⟨o,ho,hn,ha,hm,hd⟩:=mem_land hk fault
 obtain⟨a1,a2,a3,a4,a5⟩:=landR_num t.now t.disk fault o
 have hnum:=hk.rs.num o ho
 obtain⟨k0,hk0⟩:∃ k0:Nat,(k0:Int)+1=n:=⟨(n - 1).toNat,by omega⟩
 have hlast:=hl.last
 have hlt0:k0<rs.length:=by omega
 obtain⟨r0,hr0⟩:∃ r0,rs[k0]?=some r0:=⟨_,List.getElem?_eq_getElem hlt0⟩
 obtain⟨s1,s2,s3⟩:=hl.same k0 r0 hr0 o ho (by omega)
 obtain⟨t1,t2,t3,t4,t5⟩:=h.st k0 r0 hr0 o ho (by omega)
 have hlive:o.live=true:=by simp[Req.live,ha]
 have hoair:=(hk.rs.ok o ho).air ha
 have hpg:=(hk.rs.ok o ho).page
 have hA:∀ (k:Nat) r,D k=true->rs[k]?=some r->r.page=o.page->(r.write=true\/o.write=true)->k<k0:=fun k r h1 h2 h3 h4=>by
  have:(k:Int)+1<o.num:=h.ord o ho hlive k r h1 h2 h3 h4
  omega
 cases fault with
 | true=>
   have hst:(St.landR t.now t.disk true o).state=0\/(St.landR t.now t.disk true o).state=3\/((St.landR t.now t.disk true o).state=4/\o.state=4):=by
    unfold St.landR
    simp only[Bool.not_true,Bool.false_and,Bool.false_eq_true,if_false]
    rcases hoair with h1 | h1
    ·rw[if_pos h1];split <;> simp
    ·rw[if_neg (by omega)];simp[h1]
   refine⟨D,⟨h.lt,fun p h1 h2=>?_,fun y hy hyl k r h1 h2 h3 h4=>?_,h.one,h.no,fun k r hr y hy hyn=>?_,h.read,fun k r hr hw y hy hyn h2=>?_⟩⟩
   ·show bytesOf (dget (t.land true n).disk p)=_
    rw[hd]
    unfold St.landD
    simp only[Bool.not_true,Bool.false_and,Bool.false_eq_true,if_false]
    exact h.disk p h1 h2
   ·rcases (hm y).1 hy with ⟨_,hy⟩ |⟨_,rfl⟩
    ·exact h.ord y hy hyl k r h1 h2 h3 h4
    ·rw[a1];rw[a2]at h3;rw[a3]at h4
     exact h.ord o ho hlive k r h1 h2 h3 h4
   ·rcases (hm y).1 hy with ⟨_,hy⟩ |⟨_,rfl⟩
    ·exact h.st k r hr y hy hyn
    ·rw[a1]at hyn
     obtain rfl:k=k0:=by omega
     rw[hr0]at hr
     obtain rfl:=Option.some.inj hr
     refine⟨t1,t2,fun h3=>absurd (t3 h3).1 (by rw[ha];simp),fun h2=>?_,fun h2=>?_⟩
     ·omega
     ·rcases hoair with h1 | h1
      ·exact t5 (by omega)
      ·rcases hst with h3 | h3 | h3
       ·unfold St.landR at h3;simp only[Bool.not_true,Bool.false_and,Bool.false_eq_true,if_false]at h3
        rw[if_neg (by omega)]at h3;simp only at h3;omega
       ·unfold St.landR at h3;simp only[Bool.not_true,Bool.false_and,Bool.false_eq_true,if_false]at h3
        rw[if_neg (by omega)]at h3;simp only at h3;omega
       ·omega
   ·rcases (hm y).1 hy with ⟨_,hy⟩ |⟨_,rfl⟩
    ·exact h.val k r hr hw y hy hyn h2
    ·omega
 | false=>
   obtain⟨D',hD⟩:∃ D':Nat->Bool,D'=fun k=>D k || (k == k0):=⟨_,rfl⟩
   have e1:∀ k,k≠k0->D' k=D k:=fun k hk=>by rw[hD];simp[hk]
   have e2:D' k0=true:=by rw[hD];simp
   have e3:∀ k,D k=true->D' k=true:=fun k hk=>by rw[hD];simp[hk]
   have e4:∀ k,D' k=true->D k=true\/k=k0:=fun k hk=>by rw[hD]at hk;simpa using hk
   have hst:(o.state=1/\(St.landR t.now t.disk false o).state=2)\/(o.state=4/\(St.landR t.now t.disk false o).state=4):=by
    unfold St.landR
    simp only[Bool.not_false,if_true]
    rcases hoair with h1 | h1
    ·rw[if_pos h1];simp[h1]
    ·rw[if_neg (by omega)];simp[h1]
   have hdat:o.write=false->(St.landR t.now t.disk false o).data=dget t.disk o.page:=fun hw=>by
    unfold St.landR
    simp only[Bool.not_false,if_true,hw,Bool.and_self]
    split <;> rfl
   have hold:∀ (k:Nat) r,D k=true->rs[k]?=some r->lastW D' rs r.page k=lastW D rs r.page k:=fun k r h1 h2=>
    lastW_eq k fun j x hj hx hxw hxp=>by
     by_cases hjk:j=k0
     ·subst hjk
      rw[hr0]at hx
      obtain rfl:=Option.some.inj hx
      have:=hA k r h1 h2 (by rw[s2,hxp]) (.inr (by rw[s1,hxw]))
      omega
     ·exact e1 j hjk
   refine⟨D',⟨fun k hk=>?_,fun p h1 h2=>?_,fun y hy hyl k r h1 h2 h3 h4=>?_,fun k r hr h1=>e3 k (h.one k r hr h1),fun k r hr h1=>?_,fun k r hr y hy hyn=>?_,fun k r hr hw h1=>?_,fun k r hr hw y hy hyn h2=>?_⟩⟩
   ·rcases e4 k hk with hk | rfl
    ·exact h.lt k hk
    ·exact hlt0
   ·show bytesOf (dget (t.land false n).disk p)=lastW D' rs p rs.length
    rw[hd]
    unfold St.landD
    cases hw:o.write with
    | false=>
      simp only[Bool.and_false,Bool.false_eq_true,if_false]
      refine (h.disk p h1 h2).trans (lastW_eq _ fun j x hj hx hxw hxp=>?_).symm
      by_cases hjk:j=k0
      ·subst hjk
       rw[hr0]at hx
       obtain rfl:=Option.some.inj hx
       rw[<-s1,hw]at hxw;cases hxw
      ·exact e1 j hjk
    | true=>
      simp only[Bool.not_false,Bool.and_self,if_true]
      rw[dget_dput hk.dlen ⟨h1,h2⟩ hpg]
      by_cases hp:p=o.page
      ·rw[if_pos hp]
       subst hp
       rw[lastW_skip (m:=k0+1) rs.length (by omega) fun j x h1 h2 hx hxw hxp=>?_]
       ·unfold lastW
        rw[hr0]
        simp only
        rw[if_pos ⟨by rw[<-s1,hw],by rw[s2],e2⟩]
        exact (s3 hw).symm
       ·rw[e1 j (by omega)]
        cases hDj:D j with
        | false=>rfl
        | true=>have:=hA j x hDj hx hxp (.inl hxw);omega
      ·rw[if_neg hp]
       refine (h.disk p h1 h2).trans (lastW_eq _ fun j x hj hx hxw hxp=>?_).symm
       by_cases hjk:j=k0
       ·subst hjk
        rw[hr0]at hx
        obtain rfl:=Option.some.inj hx
        exact absurd (by rw[s2,hxp]) hp
       ·exact e1 j hjk
   ·rcases (hm y).1 hy with ⟨hyn,hy⟩ |⟨_,rfl⟩
    ·rcases e4 k h1 with h1 | rfl
     ·exact h.ord y hy hyl k r h1 h2 h3 h4
     ·have h2':rs[k]?=some r:=h2
      rw[hr0]at h2'
      obtain rfl:=Option.some.inj h2'
      have hfree:=hk.rs.free o ho ha y hy
      refine Int.not_le.1 fun hle=>?_
      have hlt:y.num<o.num:=by omega
      have:y.blocks o=true:=by
       unfold Req.blocks
       have hp:y.page=o.page:=by rw[s2,h3]
       have hw:(y.write || o.write)=true:=by
        rcases h4 with h4 | h4
        ·rw[s1,h4];simp
        ·rw[h4];simp
       have hli:((y.state == 0) || y.inAir)=true:=hyl
       simp[hlt,hp,hw,hli]
      rw[this]at hfree;cases hfree
    ·exfalso
     have:(St.landR t.now t.disk false o).state≠0:=by omega
     unfold Req.live at hyl
     rw[a4]at hyl
     simp at hyl
     exact this hyl
   ·have h0:=h.no k r hr h1
    by_cases hkk:k=k0
    ·subst hkk
     have hr':rs[k]?=some r:=hr
     rw[hr0]at hr'
     obtain rfl:=Option.some.inj hr'
     rcases h1 with h1 | h1
     ·exact absurd h1 t2
     ·rw[(t3 h1).1]at ha;cases ha
    ·rw[e1 k hkk];exact h0
   ·rcases (hm y).1 hy with ⟨hyn2,hy⟩ |⟨_,rfl⟩
    ·have:=h.st k r hr y hy hyn
     rw[e1 k (by omega)]
     exact this
    ·rw[a1]at hyn
     obtain rfl:k=k0:=by omega
     have hr':rs[k]?=some r:=hr
     rw[hr0]at hr'
     obtain rfl:=Option.some.inj hr'
     exact⟨t1,t2,fun h3=>absurd (t3 h3).1 (by rw[ha];simp),fun _=>e2,fun h2=>by omega⟩
   ·rw[show r.read=lastW D rs r.page k from h.read k r hr hw h1]
    exact (hold k r (h.one k r hr h1) hr).symm
   ·rcases (hm y).1 hy with ⟨_,hy⟩ |⟨_,rfl⟩
    ·rw[show bytesOf y.data=lastW D rs r.page k from h.val k r hr hw y hy hyn h2]
     exact (hold k r ((h.st k r hr y hy hyn).2.2.2.1 h2) hr).symm
    ·rw[a1]at hyn
     obtain rfl:k=k0:=by omega
     have hr':rs[k]?=some r:=hr
     rw[hr0]at hr'
     obtain rfl:=Option.some.inj hr'
     rw[hdat (by rw[s1,hw])]
     rw[show bytesOf (dget t.disk o.page)=lastW D rs o.page rs.length from h.disk o.page hpg.1 hpg.2,s2]
     rw[lastW_skip (m:=k) rs.length (by omega) fun j x h1 h2 hx hxw hxp=>?_]
     ·exact (lastW_eq k fun j x hj _ _ _=>e1 j (by omega)).symm
     ·cases hDj:D j with
      | false=>rfl
      | true=>have:=hA j x hDj hx (by rw[hxp,s2]) (.inl hxw);omega
theorem minv_lands(rs:List KReq)(fault:Bool):∀ (ns:List Int) (t:St) (air:List Int),t.OkA (ns ++ air)->KLow rs t->(∃ D,MInv ⟨rs,t⟩ D)->∃ D,MInv ⟨rs,ns.foldl (St.land fault) t⟩ D
 | [],_,_,_,_,h=>h
 | n :: ns,t,air,hk,hl,⟨D,h⟩=>minv_lands rs fault ns (t.land fault n) air (okA_land hk fault) (hl.turn (land_same fault n).2.2.2.2.1 (tur_land fault n)) (minv_land hk hl h fault)
theorem MInv.cut{rs:List KReq}{t t':St}{D:Nat->Bool}(h:MInv ⟨rs,t⟩ D)(h1:t'.rs=t.rs)(h2:t'.disk=t.disk):MInv ⟨rs,t'⟩ D:=
 ⟨h.lt,by show ∀ p:Int,_->_->bytesOf (dget t'.disk p)=_;rw[h2];exact h.disk,by show ∀ o∈t'.rs,_;rw[h1];exact h.ord,h.one,h.no,by show ∀ (k:Nat) r,_->∀ o∈t'.rs,_;rw[h1];exact h.st,h.read,by show ∀ (k:Nat) r,_->_->∀ o∈t'.rs,_;rw[h1];exact h.val⟩
theorem minv_complete{rs:List KReq}{t t':St}(hk:t.Ok)(hl:KLow rs t)(h:∃ D,MInv ⟨rs,t⟩ D){k:Nat}{fault:Bool}(hc:t.complete k fault=some t'):∃ D,MInv ⟨rs,t'⟩ D:=by
 unfold St.complete at hc
 cases hck:t.cs[k]? with
 | none=>rw [hck]at hc;cases hc
 | some c=>
   rw[hck]at hc
   simp only[Option.some.injEq]at hc
   subst hc
   obtain⟨D,h⟩:=h
   exact minv_lands rs fault c.nums _ _ (okA_cut hk hck) ⟨hl.last,hl.page,hl.same⟩ ⟨D,h.cut rfl rfl⟩
theorem minv_sent{rs:List KReq}{t:St}(hk:t.Ok){D:Nat->Bool}(h:MInv ⟨rs,t⟩ D){c:Cmd}(hc:t.cmd=some c):MInv ⟨rs,t.sent c⟩ D:=by
 obtain⟨_,f,l,hsel,_,hn⟩:=cmd_some hk.a.head hc
 have hs:=hk.a.rs.nums
 have hz:∀ r∈t.rs,r.num∈c.nums->r.state=0:=fun r hr hm=>by
  rw[hn]at hm
  exact (mem_readyR (hsel.mem r (hsel.numsIn hs hr hm)).1).2.1
 have hin:∀ y∈(t.sent c).rs,∃ o∈t.rs,(y=o/\o.num ∉ c.nums)\/(y=sentR o/\o.state=0):=fun y hy=>by
  obtain⟨o,ho,rfl⟩:=List.mem_map.1 hy
  refine⟨o,ho,?_⟩
  by_cases hm:o.num∈c.nums
  ·exact .inr ⟨by rw[if_pos hm],hz o ho hm⟩
  ·exact .inl ⟨by rw[if_neg hm],hm⟩
 refine⟨h.lt,h.disk,fun y hy hyl k r h1 h2 h3 h4=>?_,h.one,h.no,fun k r hr y hy hyn=>?_,h.read,fun k r hr hw y hy hyn h2=>?_⟩
 ·obtain⟨o,ho,⟨rfl,_⟩ |⟨rfl,h0⟩⟩:=hin y hy
  ·exact h.ord y ho hyl k r h1 h2 h3 h4
  ·exact h.ord o ho (by simp[Req.live,h0]) k r h1 h2 h3 h4
 ·obtain⟨o,ho,⟨rfl,_⟩ |⟨rfl,h0⟩⟩:=hin y hy
  ·exact h.st k r hr y ho hyn
  ·obtain⟨b1,b2,b3,b4,b5⟩:=h.st k r hr o ho hyn
   have hnoD:D k=false:=b5 (.inl h0)
   refine⟨b1,b2,fun h3=>?_,fun h2=>by simp[sentR]at h2,fun _=>hnoD⟩
   have:=(b3 h3).2
   omega
 ·obtain⟨o,ho,⟨rfl,_⟩ |⟨rfl,h0⟩⟩:=hin y hy
  ·exact h.val k r hr hw y ho hyn h2
  ·simp[sentR]at h2
theorem minv_new(d:Nat):MInv ⟨[],St.new d⟩ fun _=>false:=by
 refine⟨fun k h=>(by cases h),fun p h1 h2=>?_,fun o h=>(by cases h),fun k r h=>(by simp at h),fun k r h=>(by simp at h),fun k r h=>(by simp at h),fun k r h=>(by simp at h),fun k r h=>(by simp at h)⟩
 obtain⟨i,rfl⟩:∃ i:Nat,p=i:=⟨p.toNat,by omega⟩
 have hi:i<16:=by omega
 have e:dget (St.new d).disk (i:Int)=⟨0,0,0,0⟩:=by
  unfold dget St.new
  simp only[Int.toNat_natCast,List.getD_eq_getElem?_getD,List.getElem?_replicate]
  rw[if_pos (by omega),if_pos (by omega),if_pos (by omega),if_pos (by omega)]
  rfl
 show bytesOf (dget (St.new d).disk (i:Int))=zero4
 rw[e];rfl
theorem minv_add{x:KW}{D:Nat->Bool}(hl:KLow x.rs x.t)(h:MInv x D)(w:Bool)(p:Int)(d:B4)(dat:ByteArray)(hk:x.t.Ok):MInv ⟨x.rs ++ [newK (x.t.last+1) w p dat],x.t.add w p d⟩ D:=by
 have hlast:=hl.last
 have hget:∀ (k:Nat) r,(x.rs ++ [newK (x.t.last+1) w p dat])[k]?=some r->(k<x.rs.length/\x.rs[k]?=some r)\/(k=x.rs.length/\r=newK (x.t.last+1) w p dat):=fun k r hr=>by
  rcases Nat.lt_trichotomy k x.rs.length with hlt | he | hgt
  ·rw[List.getElem?_append_left hlt]at hr;exact .inl ⟨hlt,hr⟩
  ·subst he
   rw[List.getElem?_append_right (Nat.le_refl _)]at hr
   simp at hr
   exact .inr ⟨rfl,hr.symm⟩
  ·rw[List.getElem?_eq_none (by simp;omega)]at hr;cases hr
 have hno:D x.rs.length=false:=by
  cases hd:D x.rs.length with
  | false=>rfl
  | true=>exact absurd (h.lt _ hd) (Nat.lt_irrefl _)
 have hW:∀ q n,n<=x.rs.length->lastW D (x.rs ++ [newK (x.t.last+1) w p dat]) q n=lastW D x.rs q n:=fun q n hn=>
  lastW_rs n hn fun k r hk hr=>⟨r,by rw[List.getElem?_append_left (by omega)];exact hr,rfl,rfl,rfl⟩
 have hrs:∀ o,o∈(x.t.add w p d).rs↔o∈x.t.rs\/o=newReq (x.t.last+1) w p d:=fun o=>by simp[St.add]
 refine⟨fun k hk=>?_,fun q h1 h2=>?_,fun o ho hol k r h1 h2 h3 h4=>?_,fun k r hr h1=>?_,fun k r hr h1=>?_,fun k r hr o ho hn=>?_,fun k r hr hw h1=>?_,fun k r hr hw o ho hn h2=>?_⟩
 ·have:=h.lt k hk;simp;omega
 ·show bytesOf (dget x.t.disk q)=_
  rw[h.disk q h1 h2]
  simp only[List.length_append,List.length_singleton]
  rw[lastW_succ,List.getElem?_append_right (Nat.le_refl _)]
  simp only[Nat.sub_self,List.getElem?_cons_zero]
  rw[if_neg (by rw[hno];simp),hW q _ (Nat.le_refl _)]
 ·have hk:=h.lt k h1
  rcases hget k r h2 with ⟨_,hr⟩ |⟨rfl,_⟩
  ·rcases (hrs o).1 ho with ho | rfl
   ·exact h.ord o ho hol k r h1 hr h3 h4
   ·show (k:Int)+1<x.t.last+1
    omega
  ·omega
 ·rcases hget k r hr with ⟨_,hr⟩ |⟨rfl,rfl⟩
  ·exact h.one k r hr h1
  ·simp[newK]at h1
 ·rcases hget k r hr with ⟨_,hr⟩ |⟨rfl,rfl⟩
  ·exact h.no k r hr h1
  ·simp[newK]at h1
 ·rcases hget k r hr with ⟨hkl,hr⟩ |⟨rfl,rfl⟩
  ·rcases (hrs o).1 ho with ho | rfl
   ·exact h.st k r hr o ho hn
   ·exfalso
    have:x.t.last+1=(k:Int)+1:=hn
    omega
  ·refine⟨by simp[newK],by simp[newK],fun h3=>by simp[newK]at h3,fun h2=>?_,fun _=>hno⟩
   rcases (hrs o).1 ho with ho | rfl
   ·have:=(hk.a.rs.num o ho).2
    omega
   ·simp[newReq]at h2
 ·rcases hget k r hr with ⟨hkl,hr⟩ |⟨rfl,rfl⟩
  ·rw[hW _ _ (by omega)];exact h.read k r hr hw h1
  ·simp[newK]at h1
 ·rcases hget k r hr with ⟨hkl,hr⟩ |⟨rfl,rfl⟩
  ·rcases (hrs o).1 ho with ho | rfl
   ·rw[hW _ _ (by omega)];exact h.val k r hr hw o ho hn h2
   ·simp[newReq]at h2
  ·rcases (hrs o).1 ho with ho | rfl
   ·have:=(hk.a.rs.num o ho).2
    omega
   ·simp[newReq]at h2
theorem set_get{rs:List KReq}{i:Nat}{r r':KReq}(hi:rs[i]?=some r){k:Nat}{x:KReq}(hx:(rs.set i r')[k]?=some x):(k=i/\x=r')\/(k≠i/\rs[k]?=some x):=by
 rw[List.getElem?_set]at hx
 by_cases hk:i=k
 ·subst hk
  rw[if_pos rfl,if_pos (List.getElem?_eq_some_iff.1 hi).1]at hx
  exact .inl ⟨rfl,(Option.some.inj hx).symm⟩
 ·rw[if_neg hk]at hx
  exact .inr ⟨fun e=>hk e.symm,hx⟩
theorem lastW_set{D:Nat->Bool}{rs:List KReq}{i:Nat}{r r':KReq}(hi:rs[i]?=some r)(h1:r'.write=r.write)(h2:r'.page=r.page)(h3:r'.data=r.data)(p:Int){n:Nat}(hn:n<=rs.length):lastW D (rs.set i r') p n=lastW D rs p n:=
 lastW_rs n hn fun k x hk hx=>by
  by_cases hki:k=i
  ·subst hki
   rw[hi]at hx
   obtain rfl:=Option.some.inj hx
   exact⟨r',by rw[List.getElem?_set,if_pos rfl,if_pos (List.getElem?_eq_some_iff.1 hi).1],h1,h2,h3⟩
  ·exact⟨x,by rw[List.getElem?_set,if_neg (fun e=>hki e.symm)];exact hx,rfl,rfl,rfl⟩
theorem MInv.one_set{x:KW}{D:Nat->Bool}(hK:KInv x)(h:MInv x D){i:Nat}{r r':KReq}(hi:x.rs[i]?=some r){t':St}(hd:t'.disk=x.t.disk)(h1:r'.write=r.write)(h2:r'.page=r.page)(h3:r'.data=r.data)
  (hback:∀ y∈t'.rs,y.num≠r.num/\y∈x.t.rs\/y.num=r.num/\∃ o∈x.t.rs,o.num=y.num/\o.page=y.page/\o.write=y.write/\(y.live=true->o.live=true)/\y.state≠2/\r'.how≠1/\r'.how≠2/\(r'.how=3->y.inAir=false/\y.state=4)/\(y.state=0\/y.state=1\/y.state=3->D i=false))
  (hone:r'.how=1->D i=true) (hno:r'.how=2\/r'.how=3->D i=false) (hread:r'.write=false->r'.how=1->r'.read=lastW D x.rs r.page i):MInv ⟨x.rs.set i r',t'⟩ D:=by
 have hil:=(List.getElem?_eq_some_iff.1 hi).1
 have hin:=hK.num i r hi
 have hW:∀ p n,n<=x.rs.length->lastW D (x.rs.set i r') p n=lastW D x.rs p n:=fun p n hn=>lastW_set hi h1 h2 h3 p hn
 refine⟨fun k hk=>by rw[List.length_set];exact h.lt k hk,fun p a b=>?_,fun y hy hyl k z a b c d=>?_,fun k z hz a=>?_,fun k z hz a=>?_,fun k z hz y hy hyn=>?_,fun k z hz hw a=>?_,fun k z hz hw y hy hyn a=>?_⟩
 ·show bytesOf (dget t'.disk p)=lastW D (x.rs.set i r') p (x.rs.set i r').length
  rw[hd,List.length_set,hW p _ (Nat.le_refl _)]
  exact h.disk p a b
 ·have hz:∃ z0,x.rs[k]?=some z0/\z.page=z0.page/\z.write=z0.write:=by
   rcases set_get hi b with ⟨rfl,rfl⟩ |⟨_,e⟩
   ·exact⟨r,hi,h2,h1⟩
   ·exact⟨z,e,rfl,rfl⟩
  obtain⟨z0,e1,e2,e3⟩:=hz
  rcases hback y hy with ⟨_,hy⟩ |⟨_,o,ho,o1,o2,o3,o4,_⟩
  ·exact h.ord y hy hyl k z0 a e1 (by rw[<-e2,c]) (by rw[<-e3];exact d)
  ·rw[<-o1]
   exact h.ord o ho (o4 hyl) k z0 a e1 (by rw[<-e2,c,o2]) (by rw[<-e3,o3];exact d)
 ·rcases set_get hi hz with ⟨rfl,rfl⟩ |⟨_,e⟩
  ·exact hone a
  ·exact h.one k z e a
 ·rcases set_get hi hz with ⟨rfl,rfl⟩ |⟨_,e⟩
  ·exact hno a
  ·exact h.no k z e a
 ·rcases hback y hy with ⟨hne,hy⟩ |⟨he,o,ho,o1,o2,o3,o4,o5,o6,o7,o8,o9⟩
  ·rcases set_get hi hz with ⟨rfl,rfl⟩ |⟨_,e⟩
   ·exact absurd (by omega) hne
   ·exact h.st k z e y hy hyn
  ·rcases set_get hi hz with ⟨rfl,rfl⟩ |⟨hki,e⟩
   ·exact⟨o6,o7,o8,fun hh=>absurd hh o5,o9⟩
   ·exact absurd (by omega) hki
 ·rcases set_get hi hz with ⟨rfl,rfl⟩ |⟨_,e⟩
  ·rw[hW _ _ (by omega),h2];exact hread hw a
  ·rw[hW _ _ (Nat.le_of_lt (List.getElem?_eq_some_iff.1 e).1)];exact h.read k z e hw a
 ·rcases hback y hy with ⟨hne,hy⟩ |⟨he,o,ho,o1,o2,o3,o4,o5,_⟩
  ·rcases set_get hi hz with ⟨rfl,rfl⟩ |⟨_,e⟩
   ·exact absurd (by omega) hne
   ·rw[hW _ _ (Nat.le_of_lt (List.getElem?_eq_some_iff.1 e).1)];exact h.val k z e hw y hy hyn a
  ·exact absurd a o5
theorem minv_poll{x:KW}{D:Nat->Bool}(hK:KInv x)(h:MInv x D)(i:Nat):MInv (x.poll i) D:=by
 unfold KW.poll
 split
 ·exact h
 ·rename_i r hi
  split
  ·exact h
  ·rename_i hn
   split
   ·exact h
   ·rename_i o ho
    split
    ·exact h
    ·rename_i hs
     obtain⟨ho1,ho2,ho3⟩:=find_some ho
     have hin:=hK.num i r hi
     obtain⟨b1,b2,b3,b4,b5⟩:=h.st i r hi o ho1 (by omega)
     have hok:=hK.ok.a.rs.ok o ho1
     have hsame:=hK.low.same i r hi o ho1 (by omega)
     have hW1:(KW.pollR r o).write=r.write:=by unfold KW.pollR;repeat' split
                                               all_goals rfl
     have hW2:(KW.pollR r o).page=r.page:=by unfold KW.pollR;repeat' split
                                             all_goals rfl
     have hW3:(KW.pollR r o).data=r.data:=by unfold KW.pollR;repeat' split
                                             all_goals rfl
     refine h.one_set hK hi rfl hW1 hW2 hW3 (fun y hy=>?_) (fun a=>?_) (fun a=>?_) (fun hw a=>?_)
     ·rcases mem_tell.1 hy with ⟨hne,hy⟩ |⟨he,ha,o0,h0,h1,rfl⟩
      ·exact .inl ⟨hne,hy⟩
      ·obtain rfl:=rnum_inj hK.ok.a.rs.nums h0 ho1 (by omega)
       have ha':o0.inAir=true:=ha
       have h4:o0.state=4:=by have:=hok.air ha';omega
       have hp:KW.pollR r o0=r:=by unfold KW.pollR;rw[if_neg (by omega),if_neg (by omega)]
       refine .inr ⟨he,o0,ho1,rfl,rfl,rfl,fun z=>z,?_,?_,?_,?_,?_⟩
       ·show o0.state≠2;omega
       ·rw[hp];exact b1
       ·rw[hp];exact b2
       ·rw[hp];exact b3
       ·intro z;exact b5 z
     ·unfold KW.pollR at a
      split at a
      ·rename_i h2;exact b4 h2
      ·split at a
       ·simp at a
       ·exact absurd a b1
     ·unfold KW.pollR at a
      split at a
      ·simp at a
      ·split at a
       ·rename_i h3;exact b5 (.inr (.inr h3))
       ·exact h.no i r hi a
     ·unfold KW.pollR at hw a ⊢
      split at a
      ·rename_i h2
       rw[if_pos h2]at hw ⊢
       simp only at hw ⊢
       have how:o.write=false:=by rw[hsame.1];exact hw
       rw[how]
       simp only[Bool.false_eq_true,if_false]
       exact h.val i r hi (by rw[<-hsame.1];exact how) o ho1 (by omega) h2
      ·split at a
       ·simp at a
       ·exact absurd a b1
theorem flies_air{t:St}(h:t.Ok){o:Req}(ho:o∈t.rs)(ha:o.inAir=true):t.flies o.num=true:=by
 have:=h.a.rs.airs o ho ha
 obtain⟨c,hc,hn⟩:=List.mem_flatMap.1 this
 unfold St.flies
 rw[List.any_eq_true]
 exact⟨c,hc,by rw[List.any_eq_true];exact⟨o.num,hn,by simp⟩⟩
theorem minv_cancel{x:KW}{D:Nat->Bool}(hK:KInv x)(h:MInv x D)(i:Nat):MInv (x.cancel i) D:=by
 unfold KW.cancel
 split
 ·exact h
 ·rename_i r hi
  split
  ·exact h
  ·rename_i o ho
   split
   ·rename_i hs
    obtain⟨ho1,ho2,ho3⟩:=find_some ho
    have hin:=hK.num i r hi
    obtain⟨b1,b2,b3,b4,b5⟩:=h.st i r hi o ho1 (by omega)
    have hst:=(hK.ok.a.rs.ok o ho1).st
    have hD:=b5 (by omega)
    refine h.one_set hK hi rfl rfl rfl rfl (fun y hy=>?_) (fun a=>?_) (fun a=>hD) (fun hw a=>?_)
    ·rcases mem_give.1 hy with ⟨hne,hy⟩ |⟨he,o0,h0,h1,rfl⟩
     ·exact .inl ⟨hne,hy⟩
     ·obtain rfl:=rnum_inj hK.ok.a.rs.nums h0 ho1 (by omega)
      refine .inr ⟨he,o0,ho1,rfl,rfl,rfl,fun z=>?_,by simp[St.giveR],?_,?_,fun z=>?_,fun z=>?_⟩
      ·have z':o0.inAir=true:=by simpa[Req.live,St.giveR]using z
       simp[Req.live,z']
      ·simp only;split <;> simp
      ·simp only;split <;> simp
      ·refine⟨?_,rfl⟩
       show o0.inAir=false
       cases ha:o0.inAir with
       | false=>rfl
       | true=>
         have:=flies_air hK.ok ho1 ha
         rw[h1]at this
         simp only at z
         rw[if_pos this]at z
         simp at z
      ·exact hD
    ·simp only at a;split at a <;> simp at a
    ·simp only at a;split at a <;> simp at a
   ·exact h
structure MI(x:KW):Prop where
 k:KInv x
 m:∃ D,MInv x D
 s:x.t.Soon
theorem mi_new{d:Nat}(h:1<=d/\d<=4):MI ⟨[],St.new d⟩:=⟨kinv_new h,⟨_,minv_new d⟩,soon_new d⟩
theorem MI.tick{x:KW}(h:MI x):MI ⟨x.rs,x.t.tick⟩:=by
 obtain⟨D,hD⟩:=h.m
 exact⟨h.k.tick,⟨D,hD.cut rfl rfl⟩,tick_soon h.s⟩
theorem MI.poll{x:KW}(h:MI x)(i:Nat):MI (x.poll i):=by
 obtain⟨D,hD⟩:=h.m
 refine⟨h.k.poll i,⟨D,minv_poll h.k hD i⟩,?_⟩
 unfold KW.poll
 repeat' split
 all_goals first | exact h.s | exact soon_tell h.s _
theorem MI.cancel{x:KW}(h:MI x)(i:Nat):MI (x.cancel i):=by
 obtain⟨D,hD⟩:=h.m
 refine⟨h.k.cancel i,⟨D,minv_cancel h.k hD i⟩,?_⟩
 unfold KW.cancel
 repeat' split
 all_goals first | exact h.s | exact soon_give h.s _
theorem MI.step{x:KW}(h:MI x):MI ⟨x.rs,x.t.step⟩:=by
 obtain⟨D,hD⟩:=h.m
 refine⟨h.k.step,?_,?_⟩
 ·unfold St.step
  split
  ·exact⟨D,hD⟩
  ·rename_i c hc;exact⟨D,minv_sent h.k.ok hD hc⟩
 ·show x.t.step.Soon
  unfold St.step
  split
  ·exact h.s
  ·exact sent_soon h.s _
theorem MI.comp{x:KW}(h:MI x)(k:Nat)(fault:Bool):MI ⟨x.rs,x.t.comp k fault⟩:=by
 refine⟨h.k.comp k fault,?_,?_⟩
 ·unfold St.comp
  cases hc:x.t.complete k fault with
  | none=>exact h.m
  | some t'=>exact minv_complete h.k.ok h.k.low h.m hc
 ·show (x.t.comp k fault).Soon
  unfold St.comp
  cases hc:x.t.complete k fault with
  | none=>exact h.s
  | some t'=>exact complete_soon h.s hc
theorem MI.askR{x:KW}(h:MI x)(p:Int)(hp:0<=p/\p<16):MI (x.askR p):=by
 obtain⟨D,hD⟩:=h.m
 refine⟨h.k.askR p hp,⟨D,?_⟩,?_⟩ <;> unfold KW.askR <;> split
 ·exact hD
 ·exact minv_add h.k.low hD _ _ _ _ h.k.ok
 ·exact h.s
 ·exact soon_add h.s h.k.ok.a.now _ _ _
theorem MI.askW{x:KW}(h:MI x)(p v:Int)(hp:0<=p/\p<16)(hv:0<=v/\v<=255):MI (x.askW p v):=by
 obtain⟨D,hD⟩:=h.m
 refine⟨h.k.askW p v hp hv,⟨D,?_⟩,?_⟩ <;> unfold KW.askW <;> split
 ·exact hD
 ·exact minv_add h.k.low hD _ _ _ _ h.k.ok
 ·exact h.s
 ·exact soon_add h.s h.k.ok.a.now _ _ _
theorem MI.act{x:KW}(h:MI x)(b:Nat)(hb:b<=255):MI (x.act b):=by
 unfold KW.act
 repeat' split
 ·exact h.askR _ (by omega)
 ·exact h.askW _ _ (by omega) (by omega)
 ·exact h.step
 ·exact h.comp _ _
 ·exact h.tick.poll _
 ·exact h.tick
 ·exact h.cancel _
 ·exact h.poll _
 ·exact h
theorem MI.drive{rs:List KReq}{t:St}(h:MI ⟨rs,t⟩)(f:Nat->Bool)(n:Nat):MI ⟨rs,(t.drive f n).2⟩:=
 (drive_ind (f:=f) (fun _ t'=>MI ⟨rs,t'⟩) (fun n1 t1 n2 t2 hk1 hs1 hd hm=>by
   rcases dnext_cases hd with ⟨c,hc,rfl,rfl⟩ |⟨hc,hcs,rfl,hco⟩ |⟨hc,hcs,hw,rfl,rfl⟩
   ·have:=hm.step
    unfold St.step at this
    rw[show (KW.mk rs t1).t.cmd=some c from hc]at this
    exact this
   ·have:=hm.comp 0 (f n1)
    unfold St.comp at this
    rw[show (KW.mk rs t1).t.complete 0 (f n1)=some t2 from hco]at this
    exact this
   ·exact hm.tick) (t.mu+1) n t (by omega) h.k.ok h.s h).1
def Sett(t:St):Prop:=∀ r∈t.rs,2<=r.state/\r.inAir=false
theorem sett_tell{t:St}(h:Sett t)(n:Int):Sett (t.tell n):=fun r hr=>by
 rcases mem_tell.1 hr with ⟨_,hr⟩ |⟨_,ha,o0,h0,_,rfl⟩
 ·exact h r hr
 ·exact h o0 h0
theorem poll_same(x:KW)(i:Nat):(x.poll i).rs.length=x.rs.length/\(x.poll i).t.disk=x.t.disk/\(x.poll i).t.last=x.t.last/\(x.poll i).t.now=x.t.now/\(∀ k,k≠i->(x.poll i).rs[k]?=x.rs[k]?)/\∀ (k:Nat) (r':KReq),(x.poll i).rs[k]?=some r'->∃ r:KReq,x.rs[k]?=some r/\r'.write=r.write/\r'.page=r.page/\r'.data=r.data/\r'.num=r.num:=by
 have hself:∀ (k:Nat) (r':KReq),x.rs[k]?=some r'->∃ r:KReq,x.rs[k]?=some r/\r'.write=r.write/\r'.page=r.page/\r'.data=r.data/\r'.num=r.num:=fun k r' h=>⟨r',h,rfl,rfl,rfl,rfl⟩
 unfold KW.poll
 split
 ·exact⟨rfl,rfl,rfl,rfl,fun _ _=>rfl,hself⟩
 ·rename_i r hi
  split
  ·exact⟨rfl,rfl,rfl,rfl,fun _ _=>rfl,hself⟩
  ·split
   ·exact⟨rfl,rfl,rfl,rfl,fun _ _=>rfl,hself⟩
   ·rename_i o ho
    split
    ·exact⟨rfl,rfl,rfl,rfl,fun _ _=>rfl,hself⟩
    ·refine⟨by simp,rfl,rfl,rfl,fun k hk=>by simp only;rw[List.getElem?_set,if_neg (fun e=>hk e.symm)],fun k r' hr'=>?_⟩
     rcases set_get hi hr' with ⟨rfl,rfl⟩ |⟨_,e⟩
     ·refine⟨r,hi,?_,?_,?_,?_⟩ <;> unfold KW.pollR <;> (repeat' split) <;> rfl
     ·exact hself k r' e
theorem poll_sett{x:KW}(h:Sett x.t)(i:Nat):Sett (x.poll i).t:=by
 unfold KW.poll
 repeat' split
 all_goals first | exact h | exact sett_tell h _
theorem poll_how{x:KW}(hK:KInv x)(h:Sett x.t){i:Nat}{r:KReq}(hr:(x.poll i).rs[i]?=some r):r.how≠0:=by
 unfold KW.poll at hr
 split at hr
 ·rename_i hn;rw[hn]at hr;cases hr
 ·rename_i r0 hi
  split at hr
  ·rename_i h1
   rw[hi]at hr
   obtain rfl:=Option.some.inj hr
   omega
  ·split at hr
   ·rename_i hf
    rw[hi]at hr
    obtain rfl:=Option.some.inj hr
    exact hK.gone (List.mem_of_getElem? hi) hf
   ·rename_i o ho
    obtain⟨ho1,ho2,ho3⟩:=find_some ho
    have h2:=h o ho1
    rw[if_neg (by omega)]at hr
    simp only at hr
    rw[List.getElem?_set,if_pos rfl,if_pos (List.getElem?_eq_some_iff.1 hi).1]at hr
    obtain rfl:=Option.some.inj hr
    obtain⟨c1,c2,c3,_⟩:=hK.find (List.mem_of_getElem? hi) ho
    have hst:=(hK.ok.a.rs.ok o ho1).st
    unfold KW.pollR
    split
    ·simp
    ·split
     ·simp
     ·intro h0
      have:=c3.1 h0
      omega
def mayB(rs:List KReq)(p:Int)(read:ByteArray):Nat->Bool
 | 0=>decide (read=zero4)
 | k+1=>match rs[k]? with
   | none=>mayB rs p read k
   | some r=>
     if r.write=false\/r.page≠p then mayB rs p read k
     else if r.how=1 then decide (r.data=read)
     else if r.how=4/\r.data=read then true
     else mayB rs p read k
theorem may_ok{x:KW}{D:Nat->Bool}(h:MInv x D)(p:Int):∀ (n:Nat) (read:ByteArray),(∀ (k:Nat) r,k<n->x.rs[k]?=some r->r.how≠0)->(∀ r∈x.rs,0<=r.how/\r.how<=4)->read=lastW D x.rs p n->mayB x.rs p read n=true
 | 0,read,_,_,e=>by unfold mayB;rw[e];simp[lastW]
 | k+1,read,hh,hr4,e=>by
   have ih:=fun e'=>may_ok h p k read (fun j r hj=>hh j r (by omega)) hr4 e'
   unfold mayB
   rw[lastW_succ]at e
   cases hr:x.rs[k]? with
   | none=>rw [hr]at e;exact ih e
   | some r=>
     rw[hr]at e
     simp only at e ⊢
     have h0:=hh k r (by omega) hr
     have h4:=hr4 r (List.mem_of_getElem? hr)
     by_cases hc:r.write=false\/r.page≠p
     ·rw[if_pos hc]
      rw[if_neg (by rintro⟨a,b,_⟩;rcases hc with hc | hc;rw[hc]at a;cases a;exact hc b)]at e
      exact ih e
     ·rw[if_neg hc]
      have hw:r.write=true:=by
       cases hb:r.write with
       | true=>rfl
       | false=>exact absurd (.inl hb) hc
      have hp:r.page=p:=by
       refine Classical.byContradiction fun hb=>hc (.inr hb)
      by_cases h1:r.how=1
      ·rw[if_pos h1]
       rw[if_pos ⟨hw,hp,h.one k r hr h1⟩]at e
       simp[e]
      ·rw[if_neg h1]
       by_cases hu:r.how=4/\r.data=read
       ·rw[if_pos hu]
       ·rw[if_neg hu]
        by_cases hD:D k=true
        ·rw[if_pos ⟨hw,hp,hD⟩]at e
         exfalso
         have h23:¬(r.how=2\/r.how=3):=fun h23=>by rw[h.no k r hr h23]at hD;cases hD
         exact hu ⟨by omega,e.symm⟩
        ·rw[if_neg (fun hh=>hD hh.2.2)]at e
         exact ih e
end
section
open Go.RowKit Go.Shelf Go.Lib
set_option maxRecDepth 100000
set_option maxHeartbeats 8000000
structure KRow(W:World)(b:Nat)(rs:List KReq):Prop where
 ex:∃ ra rc,W.cell? ⟨b,1,none⟩=some (.slice ra rs.length rc)/\∀ (i:Nat) (r:KReq),rs[i]?=some r->∃ g,ra=some ⟨g,0,none⟩/\∀ j v,(kCells r)[j]?=some v->W.cell? ⟨g,i*6+j,none⟩=some v
theorem KRow.below{W W':World}{b:Nat}{rs:List KReq}(h:KRow W b rs)(hb:Below W.heap.size W W'):KRow W' b rs:=by
 obtain⟨ra,rc,h1,h2⟩:=h.ex
 exact⟨ra,rc,cell_later hb h1,fun i r hi=>by
  obtain⟨g,e,h3⟩:=h2 i r hi
  exact⟨g,e,fun j v hj=>cell_later hb (h3 j v hj)⟩⟩
theorem KO.krow{w0 w:World}{wo:Nat}{x:KW}(h:KO w0 w wo x):KRow w wo x.rs:=by
 obtain⟨ra,rc,h1,_,h2⟩:=h.rows
 exact⟨ra,rc,h1,fun i r hi=>by
  obtain⟨g,e,_,h3,_⟩:=h2 i r hi
  exact⟨g,e,h3⟩⟩
theorem mayB_step{rs:List KReq}{p:Int}{read:ByteArray}{k:Nat}{r:KReq}(hr:rs[k]?=some r):mayB rs p read (k+1)=(if r.write=false\/r.page≠p then mayB rs p read k else if r.how=1 then decide (r.data=read)else if r.how=4/\r.data=read then true else mayB rs p read k):=by
 conv=>lhs;unfold mayB
 rw[hr]
theorem beq_str(a b:ByteArray):(a.toList == b.toList)=decide (a=b):=by
 by_cases h:a=b
 ·subst h;simp
 ·have h2:¬a.data=b.data:=fun e=>h (ByteArray.ext e)
  simp[h,h2,ByteArray.toList_eq]
theorem beq_zero(a:ByteArray):(a.toList == [0,0,0,0])=decide (a=zero4):=by
 rw[<-beq_str,show zero4.toList=[0,0,0,0]from by rw[ByteArray.toList_eq];rfl]
theorem may_k(W:World)(b:Nat)(rs:List KReq)(h:KRow W b rs)(i:Nat)(r:KReq)(hr:rs[i]?=some r)(hl:rs.length<=1000000):
  Calls Tryx.prog 28 #[ptr b,.int .i64 i] W fun y w'=>y=.returned (.bool (mayB rs r.page r.read i))/\Below W.heap.size W w':=by
 obtain⟨ra,rc,h1,h2⟩:=h.ex
 obtain⟨g,rfl,hc⟩:=h2 i r hr
 have hil:=(List.getElem?_eq_some_iff.1 hr).1
 obtain⟨n,hn⟩:∃ n,rs.length=n:=⟨_,rfl⟩
 rw[hn]at h1 hil hl
 obtain⟨num,wt,page,data,how,read⟩:=r
 have a0:W.cell? ⟨g,i*6,none⟩=some (.int .i64 num):=hc 0 _ rfl
 have a1:W.cell? ⟨g,i*6+1,none⟩=some (.bool wt):=hc 1 _ rfl
 have a2:W.cell? ⟨g,i*6+2,none⟩=some (.int .i64 page):=hc 2 _ rfl
 have a3:W.cell? ⟨g,i*6+3,none⟩=some (.string data):=hc 3 _ rfl
 have a4:W.cell? ⟨g,i*6+4,none⟩=some (.int .i64 how):=hc 4 _ rfl
 have a5:W.cell? ⟨g,i*6+5,none⟩=some (.string read):=hc 5 _ rfl
 have hiI:(i:Int)<(n:Int):=by omega
 have hi0:(0:Int)<=(i:Int):=by omega
 have hw1:IntKind.i64.wrap ((i:Int) - 1)=(i:Int) - 1:=by rw[IntKind.wrap_i64];omega
 have HK:=Lib.hid (show ∀ (j:Nat) (x:KReq),rs[j]?=some x->∀ k v,(kCells x)[k]?=some v->W.cell? ⟨g,j*6+k,none⟩=some v from fun j x hx k v hk=>by
  obtain⟨g',e,h3⟩:=h2 j x hx
  simp only[Option.some.injEq,Addr.mk.injEq]at e
  rw[e.1]
  exact h3 k v hk)
 have HN:=Lib.hid hn
 clear h h2 hc hr hn
 go_enter Tryx.func28,Tryz.ntmps28
 go_wp2_with fail
 obtain⟨W1,hW1⟩:∃ W1,W.alloc (.cells #[.int .i64 num,.bool wt,.int .i64 page,.string data,.int .i64 how,.string read] 32)=W1:=⟨_,rfl⟩
 have hb1:Below W.heap.size W W1:=by rw[<-hW1];exact (Below.refl _ _).alloc (Nat.le_refl _) _
 have hr1:W1.heap[W.heap.size]?=some (.cells #[.int .i64 num,.bool wt,.int .i64 page,.string data,.int .i64 how,.string read] 32 (0,0)):=by rw[<-hW1];exact World.alloc_heap_new _ _
 rw[hW1]
 have H1:=Lib.hid (And.intro hb1 hr1)
 have c1:=cell_later hb1 h1
 have C1:=Lib.hid c1
 clear hW1 hb1 hr1 h1 c1 a0 a1 a2 a3 a4 a5
 go_loopg [6] i (fun kk kv wr=>∃ (j:Nat) (ki:Int),kk=j/\j<=i/\kv=.int .i64 ki/\ki=(j:Int) - 1/\Hid (mayB rs page read j=mayB rs page read i/\Below W1.heap.size W1 wr))
 case atStart=>exact ⟨i,(i:Int) - 1,rfl,Nat.le_refl _,by first | rfl | (rw[hw1]),rfl,Lib.hid ⟨rfl,Below.refl _ _⟩⟩
 case round=>
  obtain⟨j,ki,rfl,hj,rfl,hki,hR⟩:=hrel
  have r5:wr.cell? ⟨W.heap.size,5,none⟩=some (.string read):=cell_later hR.out.2 (cell_of H1.out.2 rfl)
  have r2:wr.cell? ⟨W.heap.size,2,none⟩=some (.int .i64 page):=cell_later hR.out.2 (cell_of H1.out.2 rfl)
  cases gk with
  | zero=>
    obtain rfl:ki= -1:=by omega
    clear hki
    go_wp2_with fail
    go_ret
    refine⟨?_,H1.out.1.trans (hR.out.2.mono H1.out.1.size)⟩
    rw[<-hR.out.1]
    show Ending.returned (Value.bool (read.toList == [0,0,0,0]))=_
    rw[beq_zero]
    rfl
  | succ k=>
    obtain rfl:ki=(k:Int):=by omega
    clear hki
    obtain⟨x,hx⟩:∃ x,rs[k]?=some x:=⟨_,List.getElem?_eq_getElem (by rw[HN.out];omega)⟩
    have hst:=mayB_step (p:=page) (read:=read) hx
    have hcx:=HK.out k x hx
    obtain⟨xn,xw,xp,xd,xh,xr⟩:=x
    have hB:=H1.out.1.trans (hR.out.2.mono H1.out.1.size)
    have b0:wr.cell? ⟨g,k*6,none⟩=some (.int .i64 xn):=cell_later hB (hcx 0 _ rfl)
    have b1:wr.cell? ⟨g,k*6+1,none⟩=some (.bool xw):=cell_later hB (hcx 1 _ rfl)
    have b2:wr.cell? ⟨g,k*6+2,none⟩=some (.int .i64 xp):=cell_later hB (hcx 2 _ rfl)
    have b3:wr.cell? ⟨g,k*6+3,none⟩=some (.string xd):=cell_later hB (hcx 3 _ rfl)
    have b4:wr.cell? ⟨g,k*6+4,none⟩=some (.int .i64 xh):=cell_later hB (hcx 4 _ rfl)
    have b5:wr.cell? ⟨g,k*6+5,none⟩=some (.string xr):=cell_later hB (hcx 5 _ rfl)
    have cc:=cell_later hR.out.2 C1.out
    have hk0:(0:Int)<=(k:Int):=by omega
    have hkn:(k:Int)<(n:Int):=by omega
    have hwk:IntKind.i64.wrap ((k:Int) - 1)=(k:Int) - 1:=by rw[IntKind.wrap_i64];omega
    have HST:=Lib.hid hst
    have HBB:=Lib.hid hB
    clear hst hcx hB hx
    obtain⟨rd,hrd⟩:∃ rd:Bool,(xd.toList == read.toList)=rd:=⟨_,rfl⟩
    have hrd2:decide (xd=read)=rd:=by rw[<-beq_str];exact hrd
    have HRD:=Lib.hid hrd2
    clear hrd2
    go_upto_region 6 with fail
    obtain⟨W2,hW2⟩:∃ W2,wr.alloc (.cells #[.int .i64 xn,.bool xw,.int .i64 xp,.string xd,.int .i64 xh,.string xr] 32)=W2:=⟨_,rfl⟩
    have hb2:Below wr.heap.size wr W2:=by rw[<-hW2];exact (Below.refl _ _).alloc (Nat.le_refl _) _
    have hx2:W2.heap[wr.heap.size]?=some (.cells #[.int .i64 xn,.bool xw,.int .i64 xp,.string xd,.int .i64 xh,.string xr] 32 (0,0)):=by rw[<-hW2];exact World.alloc_heap_new _ _
    rw[hW2]
    have q2:=cell_later hb2 r2
    have q5:=cell_later hb2 r5
    have y1:W2.cell? ⟨wr.heap.size,1,none⟩=some (.bool xw):=cell_of hx2 rfl
    have y2:W2.cell? ⟨wr.heap.size,2,none⟩=some (.int .i64 xp):=cell_of hx2 rfl
    have y3:W2.cell? ⟨wr.heap.size,3,none⟩=some (.string xd):=cell_of hx2 rfl
    have y4:W2.cell? ⟨wr.heap.size,4,none⟩=some (.int .i64 xh):=cell_of hx2 rfl
    have hB2:=HBB.out.trans (hb2.mono HBB.out.size)
    have hR2:=hR.out.2.trans (hb2.mono hR.out.2.size)
    have HB2:=Lib.hid (And.intro hB2 hR2)
    clear hW2 hb2 hx2 hB2 hR2 r2 r5 b0 b1 b2 b3 b4 b5 cc
    cases xw with
    | false=>
      go_wp2_with fail
      go_roundg k
      case measure=>omega
      case rel=>exact ⟨k,(k:Int) - 1,rfl,by omega,rfl,rfl,Lib.hid ⟨by rw[<-hR.out.1,HST.out];simp,HB2.out.2⟩⟩
    | true=>
      by_cases hp:xp=page
      ·subst hp
       by_cases h1:xh=1
       ·subst h1
        go_wp2_with fail
        go_ret
        refine⟨?_,HB2.out.1⟩
        rw[<-hR.out.1,HST.out]
        simp[HRD.out]
       ·by_cases h4:xh=4
        ·subst h4
         cases rd with
         | true=>
           go_wp2_with fail
           go_ret
           refine⟨?_,HB2.out.1⟩
           rw[<-hR.out.1,HST.out]
           simp[of_decide_eq_true HRD.out]
         | false=>
           go_wp2_with fail
           go_roundg k
           case measure=>omega
           case rel=>exact ⟨k,(k:Int) - 1,rfl,by omega,rfl,rfl,Lib.hid ⟨by rw[<-hR.out.1,HST.out];simp[of_decide_eq_false HRD.out],HB2.out.2⟩⟩
        ·go_wp2_with fail
         go_roundg k
         case measure=>omega
         case rel=>exact ⟨k,(k:Int) - 1,rfl,by omega,rfl,rfl,Lib.hid ⟨by rw[<-hR.out.1,HST.out];simp[h1,h4],HB2.out.2⟩⟩
      ·go_wp2_with fail
       go_roundg k
       case measure=>omega
       case rel=>exact ⟨k,(k:Int) - 1,rfl,by omega,rfl,rfl,Lib.hid ⟨by rw[<-hR.out.1,HST.out];simp[hp],HB2.out.2⟩⟩
end
end Go.Proofs.YticobikhndlejaaGreatDoor
