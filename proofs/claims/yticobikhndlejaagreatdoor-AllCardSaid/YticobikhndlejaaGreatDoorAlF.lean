/- Part 6 of the proof (see the last part). -/
import Derived.Test.YticobikhndlejaaGreatDoorAlE
import Derived.RangeFuncNested
import Derived.RangeFuncBound
import Derived.OwnWalkIn
import Derived.TacticsInMore
import Derived.LoopNIn
import Derived.LoopIn
import Derived.Shelf.Slices.Clone
import Derived.Shelf.SlSortCmp.NoneTotal
import Derived.Lib.SortBridge
namespace Go.Proofs.YticobikhndlejaaGreatDoor
section
theorem mem_byPageR{l:List Req}{r:Req}:r∈byPageR l↔r∈l/\0<=r.page/\r.page<16:=by
 unfold byPageR
 simp only[List.mem_flatMap,List.mem_range,List.mem_filter,beq_iff_eq]
 constructor
 ·rintro⟨p,hp,hr,he⟩;exact⟨hr,by omega,by omega⟩
 ·rintro⟨hr,h1,h2⟩;exact⟨r.page.toNat,by omega,hr,by omega⟩
theorem byPageR_nodup{l:List Req}(h:l.Nodup):(byPageR l).Nodup:=by
 unfold byPageR List.Nodup
 refine List.pairwise_flatMap.2 ⟨fun p _=>h.filter _,(List.pairwise_lt_range (n:=16)).imp fun {p q} hpq x hx y hy e=>?_⟩
 have h2:=(List.mem_filter.1 hx).2
 have h3:=(List.mem_filter.1 hy).2
 subst e
 simp at h2 h3;omega
theorem nodup_of_nums{l:List Req}(h:l.Pairwise (·.num < ·.num)):l.Nodup:=h.imp fun hlt e=>by subst e;omega
theorem mem_readyR{now:Int}{l:List Req}{r:Req}(h:r∈readyR now l):r∈l/\r.state=0/\r.after<=now/\∀ o∈l,o.blocks r=false:=by
 have h1:=List.mem_filter.1 h
 have h2:=(mem_byPageR.1 h1.1).1
 have h3:=h1.2
 simp only[isReadyR,Bool.and_eq_true,beq_iff_eq,decide_eq_true_eq,Bool.not_eq_true']at h3
 refine⟨h2,h3.1,h3.2.1,fun o ho=>?_⟩
 have:=List.any_eq_false.1 h3.2.2 o ho
 simpa using this
theorem ready_mem{now:Int}{l:List Req}{r:Req}(hr:r∈l)(hp:0<=r.page/\r.page<16)(h0:r.state=0)(ha:r.after<=now)(hb:∀ o∈l,o.blocks r=false):r∈readyR now l:=by
 refine List.mem_filter.2 ⟨mem_byPageR.2 ⟨hr,hp⟩,?_⟩
 have h1:(l.any fun o=>o.blocks r)=false:=List.any_eq_false.2 fun o ho=>by simp[hb o ho]
 simp[isReadyR,h0,ha,h1]
theorem wrapAt_lt16{head i:Nat}(h:head<=16)(hi:i<16):wrapAt head i<16:=by unfold wrapAt;split <;> omega
theorem beginE_spec{ne:Nat->Bool}{head p:Nat}(hh:head<=16)(h:beginE ne head=some p):p<16/\ne p=true:=by
 unfold beginE at h
 have h1:=List.find?_some h
 have h2:=List.mem_of_find?_eq_some h
 obtain⟨i,hi,rfl⟩:=List.mem_map.1 h2
 exact⟨wrapAt_lt16 hh (List.mem_range.1 hi),h1⟩
theorem beginE_no{ne:Nat->Bool}{head:Nat}(hh:head<=16)(h:beginE ne head=none)(k:Nat)(hk:k<16):ne k=false:=by
 unfold beginE at h
 rw[List.find?_eq_none]at h
 by_cases hc:head<=k
 ·have:=h (wrapAt head (k - head)) (List.mem_map_of_mem (List.mem_range.2 (by omega)))
  unfold wrapAt at this
  rw[if_neg (by omega),show head+(k - head)=k from by omega]at this
  simpa using this
 ·have:=h (wrapAt head (k+16 - head)) (List.mem_map_of_mem (List.mem_range.2 (by omega)))
  unfold wrapAt at this
  rw[if_pos (by omega),show head+(k+16 - head) - 16=k from by omega]at this
  simpa using this
theorem takeWhile_stop(q:Nat->Bool):∀ m,((List.range m).takeWhile q).length<m->q ((List.range m).takeWhile q).length=false
 | 0,h=>by simp at h
 | m+1,h=>by
   rw[List.range_succ,List.takeWhile_append]at h ⊢
   split at h
   ·rename_i hc
    rw[if_pos hc]
    have h1:((List.range m).takeWhile q).length=m:=by simpa using hc
    rw[List.length_append,List.length_range]at h ⊢
    cases hq:q m with
    | true=>rw [List.takeWhile_cons_of_pos hq]at h;simp at h
    | false=>rw [List.takeWhile_cons_of_neg (by simp[hq])];simpa using hq
   ·rename_i hc
    rw[if_neg hc]
    have h2:((List.range m).takeWhile q).length<=m:=by
     have:=(List.takeWhile_sublist (l:=List.range m) q).length_le;simpa using this
    have h1:((List.range m).takeWhile q).length≠m:=fun e=>hc (by simpa using e)
    exact takeWhile_stop q m (by omega)
theorem runLenR_spec(K:Nat->List Req)(p m:Nat):runLenR K p m<=m/\(∀ i,i<runLenR K p m->K (p+i)≠[])/\(runLenR K p m<m->K (p+runLenR K p m)=[]):=by
 unfold runLenR
 generalize hq:(fun i=>!(K (p+i)).isEmpty)=q
 obtain⟨bs,hb⟩:∃ bs,(List.range m).takeWhile q ++ bs=List.range m:=⟨_,List.takeWhile_append_dropWhile⟩
 have hle:((List.range m).takeWhile q).length<=m:=by
  have:=(List.takeWhile_sublist (l:=List.range m) q).length_le;simpa using this
 have hget:∀ i,i<((List.range m).takeWhile q).length->((List.range m).takeWhile q)[i]?=some i:=fun i hi=>by
  have:=congrArg (fun l=>l[i]?) hb
  simp only[List.getElem?_append_left hi]at this
  rw[this,List.getElem?_range (by omega)]
 refine⟨hle,fun i hi=>?_,fun hlt=>?_⟩
 ·have h1:=hget i hi
  have h2:i∈(List.range m).takeWhile q:=List.mem_of_getElem? h1
  have h3:q i=true:=by
   have:=List.all_takeWhile (l:=List.range m) (p:=q)
   exact List.all_eq_true.1 this i h2
  rw[<-hq]at h3
  simpa using h3
 ·subst hq
  have:=takeWhile_stop _ m hlt
  simpa using this
theorem mem_gatherR{K:Nat->List Req}{p n:Nat}{r:Req}:r∈gatherR K p n↔∃ i,i<n/\r∈K (p+i):=by
 unfold gatherR;simp
theorem mem_kindR{L:List Req}{w:Bool}{k:Nat}{r:Req}:r∈kindR L w k↔r∈L/\r.page=(k:Int)/\r.write=w/\r.alone=false:=by
 unfold kindR pageR isKindR
 simp only[List.mem_filter,beq_iff_eq,Bool.and_eq_true,Bool.not_eq_true']
 exact⟨fun ⟨⟨a,b⟩,c,d⟩=>⟨a,b,c,d⟩,fun ⟨a,b,c,d⟩=>⟨⟨a,b⟩,c,d⟩⟩
structure Sel(L:List Req)(head p n:Nat)(sel:List Req):Prop where
 p16:p<16
 n1:1<=n
 n4:n<=4
 pn:p+n<=16
 first:beginE (fun k=>decide (0<(pageR L k).length)) head=some p
 mem:∀ r∈sel,r∈L/\(p:Int)<=r.page/\r.page<p+n
 all:∀ k:Nat,k<n->∃ r∈sel,r.page=((p+k:Nat):Int)
 form:∃ f t,pageR L p=f :: t/\((f.alone=true/\n=1/\sel=[f])\/(f.alone=false/\sel=gatherR (kindR L f.write) p n/\(∀ i,i<n->kindR L f.write (p+i)≠[])/\(n<4->p+n<16->kindR L f.write (p+n)=[])))
theorem nextR_spec{L:List Req}{head:Nat}(hh:head<=16):(nextR L head=(0,0,[])/\∀ k,k<16->pageR L k=[])\/∃ p n f t,nextR L head=(p,n,f :: t)/\Sel L head p n (f :: t):=by
 unfold nextR
 cases hb:beginE (fun k=>decide (0<(pageR L k).length)) head with
 | none=>exact .inl ⟨rfl,fun k hk=>by have:=beginE_no hh hb k hk;simpa using this⟩
 | some p=>
   obtain⟨hp16,hne⟩:=beginE_spec hh hb
   obtain⟨f,t,hft⟩:∃ f t,pageR L p=f :: t:=by
    cases hpl:pageR L p with
    | nil=>simp [hpl]at hne
    | cons f t=>exact ⟨f,t,rfl⟩
   have hfm:=List.mem_filter.1 (show f∈pageR L p from by rw[hft];simp)
   have hfp:f.page=(p:Int):=by simpa using hfm.2
   simp only[hft]
   cases hal:f.alone with
   | true=>exact .inr ⟨p,1,f,[],rfl,hp16,by omega,by omega,by omega,hb,fun r hr=>by rw[List.mem_singleton.1 hr];exact⟨hfm.1,by omega,by omega⟩,fun k hk=>⟨f,by simp,by rw[hfp];omega⟩,⟨f,t,hft,.inl ⟨hal,rfl,rfl⟩⟩⟩
   | false=>
     simp only[Bool.false_eq_true,if_false]
     obtain⟨h1,h2,h3⟩:=runLenR_spec (kindR L f.write) p (min 4 (16 - p))
     obtain⟨n,hn⟩:∃ n,runLenR (kindR L f.write) p (min 4 (16 - p))=n:=⟨_,rfl⟩
     rw[hn]at h1 h2 h3 ⊢
     have hfk:f∈kindR L f.write p:=mem_kindR.2 ⟨hfm.1,hfp,rfl,hal⟩
     have hn1:1<=n:=by
      rcases Nat.eq_zero_or_pos n with h0 | h0
      ·subst h0
       have:=h3 (by omega)
       rw[show p+0=p from rfl]at this
       rw[this]at hfk;cases hfk
      ·exact h0
     have hg:∃ x l,gatherR (kindR L f.write) p n=x :: l:=by
      have:f∈gatherR (kindR L f.write) p n:=mem_gatherR.2 ⟨0,hn1,hfk⟩
      cases hg:gatherR (kindR L f.write) p n with
      | nil=>rw [hg]at this;cases this
      | cons x l=>exact ⟨x,l,rfl⟩
     obtain⟨x,l,hxl⟩:=hg
     refine .inr ⟨p,n,x,l,by rw[hxl],?_⟩
     rw[<-hxl]
     refine⟨hp16,hn1,by omega,by omega,hb,fun r hr=>?_,fun k hk=>?_,⟨f,t,hft,.inr ⟨hal,rfl,h2,fun a b=>h3 (by omega)⟩⟩⟩
     ·obtain⟨i,hi,hm⟩:=mem_gatherR.1 hr
      obtain⟨m1,m2,_⟩:=mem_kindR.1 hm
      exact⟨m1,by rw[m2];omega,by rw[m2];omega⟩
     ·cases hk2:kindR L f.write (p+k)with
      | nil=>exact absurd hk2 (h2 k hk)
      | cons y m=>
        have hy:y∈kindR L f.write (p+k):=by rw[hk2];simp
        exact⟨y,mem_gatherR.2 ⟨k,hk,hy⟩,(mem_kindR.1 hy).2.1⟩
theorem Sel.kind{L:List Req}{head p n:Nat}{sel:List Req}(h:Sel L head p n sel):∃ w,∀ r∈sel,r.write=w:=by
 obtain⟨f,t,_,⟨_,_,e⟩ |⟨_,e,_⟩⟩:=h.form
 ·exact⟨f.write,fun r hr=>by rw[e]at hr;rw[List.mem_singleton.1 hr]⟩
 ·exact⟨f.write,fun r hr=>by
   rw[e]at hr
   obtain⟨i,_,hm⟩:=mem_gatherR.1 hr
   exact (mem_kindR.1 hm).2.2.1⟩
theorem len_one{l:List Req}(hn:l.Nodup)(h:∀ a∈l,∀ b∈l,a=b):l.length<=1:=by
 match l,hn,h with
 | [],_,_=>simp
 | [_],_,_=>simp
 | a :: b :: t,hn,h=>
   have:=h a (by simp) b (by simp)
   subst this
   simp at hn
theorem gather_nodup{L:List Req}(hL:L.Nodup)(w:Bool)(p n:Nat):(gatherR (kindR L w) p n).Nodup:=by
 unfold gatherR List.Nodup
 refine List.pairwise_flatMap.2 ⟨fun i _=>(hL.filter _).filter _,(List.pairwise_lt_range (n:=n)).imp fun {i j} hij x hx y hy e=>?_⟩
 have h1:=(mem_kindR.1 hx).2.1
 have h2:=(mem_kindR.1 hy).2.1
 subst e
 omega
theorem gather_succR(K:Nat->List Req)(a j:Nat):gatherR K a (j+1)=gatherR K a j ++ K (a+j):=by simp[gatherR,List.range_succ,List.flatMap_append]
theorem gather_len_ge{K:Nat->List Req}{p:Nat}:∀ n,(∀ i,i<n->K (p+i)≠[])->n<=(gatherR K p n).length
 | 0,_=>by simp
 | n+1,h=>by
   rw[gather_succR,List.length_append]
   have:=gather_len_ge n fun i hi=>h i (by omega)
   have h2:0<(K (p+n)).length:=List.length_pos_iff.2 (h n (by omega))
   omega
theorem gather_len_le{K:Nat->List Req}{p:Nat}:∀ n,(∀ i,i<n->(K (p+i)).length<=1)->(gatherR K p n).length<=n
 | 0,_=>by simp[gatherR]
 | n+1,h=>by
   rw[gather_succR,List.length_append]
   have:=gather_len_le n fun i hi=>h i (by omega)
   have h2:=h n (by omega)
   omega
theorem ready_alone{now:Int}{rs:List Req}(hs:rs.Pairwise (·.num < ·.num)){a b:Req}(ha:a∈readyR now rs)(hb:b∈readyR now rs)(hp:a.page=b.page)(hw:a.write=true):a=b:=by
 obtain⟨a1,a2,a3,a4⟩:=mem_readyR ha
 obtain⟨b1,b2,b3,b4⟩:=mem_readyR hb
 by_cases h:a.num=b.num
 ·exact rnum_inj hs a1 b1 h
 ·rcases Int.lt_or_gt_of_ne h with hlt | hlt
  ·have:=b4 a a1
   simp[Req.blocks,hlt,hp,hw,a2]at this
  ·have:=a4 b b1
   simp[Req.blocks,hp,hw,b2]at this
   omega
theorem cmd_some{t:St}(h:t.head<=16){c:Cmd}(hc:t.cmd=some c):t.cs.length<t.depth/\∃ f l,Sel (readyR t.now t.rs) t.head c.page c.count (f :: l)/\c.write=f.write/\c.nums=(f :: l).map (·.num):=by
 unfold St.cmd at hc
 split at hc
 ·cases hc
 ·rename_i hd
  refine⟨by omega,?_⟩
  rcases nextR_spec (L:=readyR t.now t.rs) h with ⟨h1,_⟩ |⟨p,n,f,l,h1,hS⟩
  ·rw[h1]at hc;cases hc
  ·rw[h1]at hc
   simp only[Option.some.injEq]at hc
   subst hc
   exact⟨f,l,hS,rfl,rfl⟩
theorem cmd_none{t:St}(h:t.head<=16)(hc:t.cmd=none):t.depth<=t.cs.length\/∀ k,k<16->pageR (readyR t.now t.rs) k=[]:=by
 unfold St.cmd at hc
 split at hc
 ·exact .inl ‹_›
 ·rcases nextR_spec (L:=readyR t.now t.rs) h with ⟨h1,h2⟩ |⟨p,n,f,l,h1,hS⟩
  ·exact .inr h2
  ·rw[h1]at hc;cases hc
theorem Sel.numsIn{t:St}{head p n:Nat}{sel:List Req}(hs:t.rs.Pairwise (·.num < ·.num))(h:Sel (readyR t.now t.rs) head p n sel){r:Req}(hr:r∈t.rs)(hn:r.num∈sel.map (·.num)):r∈sel:=by
 obtain⟨x,hx,e⟩:=List.mem_map.1 hn
 have:=rnum_inj hs (mem_readyR (h.mem x hx).1).1 hr e
 rwa [this]at hx
theorem Sel.nodup{t:St}{head p n:Nat}{sel:List Req}(hs:t.rs.Pairwise (·.num < ·.num))(h:Sel (readyR t.now t.rs) head p n sel):(sel.map (·.num)).Nodup:=by
 have hL:(readyR t.now t.rs).Nodup:=(byPageR_nodup (nodup_of_nums hs)).filter _
 have h1:sel.Nodup:=by
  obtain⟨f,l,_,⟨_,_,e⟩ |⟨_,e,_⟩⟩:=h.form
  ·rw[e];simp
  ·rw[e];exact gather_nodup hL _ _ _
 refine List.pairwise_map.2 (h1.imp_of_mem fun {a b} ha hb hab e=>hab ?_)
 exact rnum_inj hs (mem_readyR (h.mem a ha).1).1 (mem_readyR (h.mem b hb).1).1 e
theorem ok_sent{t:St}(h:t.Ok){c:Cmd}(hc:t.cmd=some c):(t.sent c).Ok:=by
 obtain⟨hd,f,l,hS,hw,hns⟩:=cmd_some h.a.head hc
 obtain⟨sel,hsel⟩:∃ sel,f :: l=sel:=⟨_,rfl⟩
 have hfs:f∈sel:=by rw[<-hsel];simp
 rw[hsel]at hS hns
 obtain⟨w,hkind⟩:=hS.kind
 have hcw:c.write=w:=hw.trans (hkind f hfs)
 have hs:=h.a.rs.nums
 have hin:∀ r∈t.rs,r.num∈c.nums->r∈sel:=fun r hr hn=>hS.numsIn hs hr (hns ▸ hn)
 have hto:∀ r∈sel,r∈t.rs/\r.num∈c.nums/\r.state=0/\∀ o∈t.rs,o.blocks r=false:=fun r hr=>by
  obtain⟨a,b,_,d⟩:=mem_readyR (hS.mem r hr).1
  exact⟨a,by rw[hns];exact List.mem_map_of_mem hr,b,d⟩
 have hair:∀ r∈t.rs,r.num∈c.nums->r.inAir=false:=fun r hr hn=>by
  cases ha:r.inAir with
  | false=>rfl
  | true=>have:=(h.a.rs.ok r hr).air ha;have:=(hto r (hin r hr hn)).2.2.1;omega
 have hnd:(t.cs.flatMap (·.nums) ++ c.nums).Nodup:=by
  rw[List.nodup_append]
  refine⟨h.a.rs.nodup,hns ▸ hS.nodup hs,fun a ha b hb e=>?_⟩
  subst e
  obtain⟨r,hr,h1,h2⟩:=h.a.rs.fly a ha
  subst h1
  rw[hair r hr hb]at h2;cases h2
 have hfl:(t.sent c).cs.flatMap (·.nums)=t.cs.flatMap (·.nums) ++ c.nums:=by simp[St.sent]
 have hrs:RsOk t.last ((t.rs.map fun r=>if r.num∈c.nums then sentR r else r)) (t.cs.flatMap (·.nums) ++ c.nums):=by
  refine h.a.rs.map _ (fun x=>by split <;> rfl) (fun x=>by split <;> rfl) (fun x=>by split <;> rfl) (fun x hx=>?_) (fun x hx=>?_) hnd (fun m hm=>?_) (fun x hx ha=>?_) (fun x hx ha=>?_)
  ·have ho:=h.a.rs.ok x hx
   split
   ·rename_i hm
    have h0:=(hto x (hin x hx hm)).2.2.1
    refine⟨ho.page,by simp[sentR],ho.tries,fun _=>ho.try3 (by simp[Req.live,h0]),fun _=>.inl rfl,fun _=>rfl,fun ht=>?_,ho.byte⟩
    have:=(ho.told ht).1
    omega
   ·exact ho
  ·split
   ·rename_i hm
    intro _
    have h0:=(hto x (hin x hx hm)).2.2.1
    simp[Req.live,h0]
   ·exact id
  ·rcases List.mem_append.1 hm with hm | hm
   ·obtain⟨x,hx,h1,h2⟩:=h.a.rs.fly m hm
    exact⟨x,hx,h1,by split <;> first | rfl | exact h2⟩
   ·rw[hns]at hm
    obtain⟨x,hx,rfl⟩:=List.mem_map.1 hm
    exact⟨x,(hto x hx).1,rfl,by rw[if_pos (hto x hx).2.1];rfl⟩
  ·split at ha
   ·exact List.mem_append_right _ ‹_›
   ·exact List.mem_append_left _ (h.a.rs.airs x hx ha)
  ·split at ha
   ·exact .inr (hto x (hin x hx ‹_›)).2.2.2
   ·exact .inl ha
 refine⟨⟨h.a.depth,by have:=hS.pn;simp only[St.sent];omega,h.a.dlen,h.a.dbyte,h.a.last,h.a.now,by rw[hfl];exact hrs,?_,h.a.h40,sent_soon h.a.soon c⟩,by simp only[St.sent,List.length_append,List.length_singleton];omega,fun x hx=>?_⟩
 ·show t.held=_
  rw[h.a.held]
  simp only[St.sent]
  rw[filter_len_map]
  intro x _
  split <;> rfl
 ·have hmono:∀ (nums:List Int),∀ r∈t.rs,r.num∈nums->∃ r'∈(t.sent c).rs,r'.num=r.num/\r'.write=r.write/\r'.page=r.page:=fun _ r hr _=>
   ⟨_,List.mem_map_of_mem hr,by split <;> rfl,by split <;> rfl,by split <;> rfl⟩
  rcases List.mem_append.1 hx with hx | hx
  ·exact (h.cmds x hx).mono (hmono _)
  ·rw[List.mem_singleton.1 hx]
   refine CmdOk.mono (rs:=t.rs) ⟨⟨hS.n1,hS.n4⟩,hS.pn,?_,?_,?_,?_⟩ (hmono _)
   ·rw[hns,List.length_map]
    obtain⟨g,m,_,⟨_,e1,e⟩ |⟨_,e,e2,_⟩⟩:=hS.form
    ·rw[e,e1];simp
    ·rw[e];exact gather_len_ge _ e2
   ·intro hwt
    rw[hns,List.length_map]
    obtain⟨g,m,hg,⟨_,e1,e⟩ |⟨_,e,e2,_⟩⟩:=hS.form
    ·rw[e,e1];simp
    ·have h1:=gather_len_ge _ e2
     have hgw:g.write=true:=by
      have h2:f∈gatherR (kindR (readyR t.now t.rs) g.write) c.page c.count:=e ▸ hfs
      obtain⟨i,_,hm⟩:=mem_gatherR.1 h2
      rw[<-(mem_kindR.1 hm).2.2.1,<-hw];exact hwt
     have hL:(readyR t.now t.rs).Nodup:=(byPageR_nodup (nodup_of_nums hs)).filter _
     have h2:=gather_len_le (K:=kindR (readyR t.now t.rs) g.write) (p:=c.page) c.count fun i _=>len_one ((hL.filter _).filter _) fun a ha b hb=>by
      obtain⟨a1,a2,a3,_⟩:=mem_kindR.1 ha
      obtain⟨b1,b2,b3,_⟩:=mem_kindR.1 hb
      exact ready_alone hs a1 b1 (a2.trans b2.symm) (a3.trans hgw)
     rw[e];omega
   ·intro n hn
    rw[hns]at hn
    obtain⟨r,hr,rfl⟩:=List.mem_map.1 hn
    exact⟨r,(hto r hr).1,rfl,(hkind r hr).trans hcw.symm,(hS.mem r hr).2.1,(hS.mem r hr).2.2⟩
   ·intro p h1 h2
    obtain⟨r,hr,e⟩:=hS.all (p - c.page).toNat (by omega)
    exact⟨r,(hto r hr).1,(hto r hr).2.1,by omega⟩
theorem dput_len(d:List Int)(p:Int)(b:B4):(dput d p b).length=d.length:=by simp[dput]
theorem mem_dput{d:List Int}{p:Int}{b:B4}{x:Int}(h:x∈dput d p b):x∈d\/x=b.a\/x=b.b\/x=b.c\/x=b.d:=by
 unfold dput at h
 rcases List.mem_or_eq_of_mem_set h with h | h
 ·rcases List.mem_or_eq_of_mem_set h with h | h
  ·rcases List.mem_or_eq_of_mem_set h with h | h
   ·rcases List.mem_or_eq_of_mem_set h with h | h
    ·exact .inl h
    ·exact .inr (.inl h)
   ·exact .inr (.inr (.inl h))
  ·exact .inr (.inr (.inr (.inl h)))
 ·exact .inr (.inr (.inr (.inr h)))
theorem dput_byte{d:List Int}{p:Int}{b:B4}(h:∀ x∈d,0<=x/\x<=255)(hb:BOk b):∀ x∈dput d p b,0<=x/\x<=255:=fun x hx=>by
 obtain⟨h1,h2,h3,h4⟩:=hb
 rcases mem_dput hx with h' | h' | h' | h' | h'
 ·exact h x h'
 ·rw[h'];exact h1
 ·rw[h'];exact h2
 ·rw[h'];exact h3
 ·rw[h'];exact h4
theorem dget_byte{d:List Int}(h:∀ x∈d,0<=x/\x<=255)(p:Int):BOk (dget d p):=by
 have g:∀ i,0<=d.getD i 0/\d.getD i 0<=255:=fun i=>by
  rw[List.getD_eq_getElem?_getD]
  cases hi:d[i]? with
  | none=>simp
  | some x=>simpa using h x (List.mem_of_getElem? hi)
 exact⟨g _,g _,g _,g _⟩
theorem landR_num(now:Int)(disk:List Int)(fault:Bool)(r:Req):(St.landR now disk fault r).num=r.num/\(St.landR now disk fault r).page=r.page/\(St.landR now disk fault r).write=r.write/\(St.landR now disk fault r).inAir=false/\(St.landR now disk fault r).told=r.told:=by
 unfold St.landR
 simp only
 split
 ·split
  ·exact⟨rfl,rfl,rfl,rfl,rfl⟩
  ·split <;> exact⟨rfl,rfl,rfl,rfl,rfl⟩
 ·exact⟨rfl,rfl,rfl,rfl,rfl⟩
theorem okA_land{t:St}{n:Int}{air:List Int}(h:t.OkA (n :: air))(fault:Bool):(t.land fault n).OkA air:=by
 obtain⟨r,hr,hrn,hra⟩:=h.rs.fly n (by simp)
 have key:∀ x∈t.rs,x.num=n->x=r:=fun x hx hxn=>rnum_inj h.rs.nums hx hr (by omega)
 subst hrn
 have hf:=find_num h.rs.nums hr
 have hro:=h.rs.ok r hr
 have hlo:=landR_num t.now t.disk fault r
 have hnum:∀ x,(if x.num=r.num then St.landR t.now t.disk fault x else x).num=x.num:=fun x=>by split;exact (landR_num ..).1;rfl
 have hpage:∀ x,(if x.num=r.num then St.landR t.now t.disk fault x else x).page=x.page:=fun x=>by split;exact (landR_num ..).2.1;rfl
 have hwr:∀ x,(if x.num=r.num then St.landR t.now t.disk fault x else x).write=x.write:=fun x=>by split;exact (landR_num ..).2.2.1;rfl
 have hnd:=h.rs.nodup
 rw[List.nodup_cons]at hnd
 have hairx:∀ x∈t.rs,(if x.num=r.num then St.landR t.now t.disk fault x else x).inAir=true->x.inAir=true/\x.num≠r.num:=fun x hx ha=>by
  split at ha
  ·rw[(landR_num ..).2.2.2.1]at ha;cases ha
  ·exact⟨ha,‹_›⟩
 have hbd:BOk (if !fault && !r.write then dget t.disk r.page else r.data):=by
  split
  ·exact dget_byte h.dbyte _
  ·exact hro.byte
 have hdrop:∀ x∈t.rs,x.num=r.num->x.told=false->ROk (St.landR t.now t.disk fault x):=fun x hx hxn ht=>by
  have hxr:=key x hx hxn
  subst hxr
  have h3:=hro.try3 (by simp[Req.live,hra])
  have h4:=hro.tries
  unfold St.landR
  simp only
  split
  ·split
   ·exact⟨hro.page,by simp,by simp;omega,by simp[Req.live],by simp,by simp,by simp[ht],hbd⟩
   ·split
    ·exact⟨hro.page,by simp,by simp;omega,by simp[Req.live],by simp,by simp,by simp[ht],hbd⟩
    ·exact⟨hro.page,by simp,by simp;omega,by simp;omega,by simp,by simp,by simp[ht],hbd⟩
  ·rename_i hs1
   have hs4:x.state=4:=by rcases hro.air hra with h1 | h1 <;> omega
   exact⟨hro.page,by simp[hs4],by simp;omega,by simp[Req.live,hs4],by simp,by simp[hs4],by simp[ht],hbd⟩
 have hrs:RsOk t.last (((t.rs.filter fun x=>!(x.num == r.num && x.told)).map fun x=>if x.num=r.num then St.landR t.now t.disk fault x else x)) air:=by
  have hfil:∀ x∈t.rs.filter fun x=>!(x.num == r.num && x.told),x∈t.rs/\(x.num=r.num->x.told=false):=fun x hx=>by
   obtain⟨h1,h2⟩:=List.mem_filter.1 hx
   refine⟨h1,fun e=>?_⟩
   simpa[e]using h2
  refine⟨?_,fun x hx=>?_,fun x hx=>?_,hnd.2,fun m hm=>?_,fun x hx ha=>?_,fun x hx ha o ho=>?_⟩
  ·refine List.pairwise_map.2 ((h.rs.nums.filter _).imp fun {a b} hab=>?_)
   rw[hnum,hnum];exact hab
  ·obtain⟨y,hy,rfl⟩:=List.mem_map.1 hx
   rw[hnum];exact h.rs.num y (hfil y hy).1
  ·obtain⟨y,hy,rfl⟩:=List.mem_map.1 hx
   split
   ·rename_i e;exact hdrop y (hfil y hy).1 e ((hfil y hy).2 e)
   ·exact h.rs.ok y (hfil y hy).1
  ·obtain⟨y,hy,h1,h2⟩:=h.rs.fly m (List.mem_cons_of_mem _ hm)
   have hne:y.num≠r.num:=fun e=>hnd.1 (by rw[<-e,h1];exact hm)
   exact⟨_,List.mem_map_of_mem (List.mem_filter.2 ⟨hy,by simp[hne]⟩),by rw[if_neg hne];exact h1,by rw[if_neg hne];exact h2⟩
  ·obtain⟨y,hy,rfl⟩:=List.mem_map.1 hx
   obtain⟨h1,h2⟩:=hairx y (hfil y hy).1 ha
   rw[hnum]
   have:=h.rs.airs y (hfil y hy).1 h1
   rcases List.mem_cons.1 this with e | e
   ·exact absurd e h2
   ·exact e
  ·obtain⟨y,hy,rfl⟩:=List.mem_map.1 hx
   obtain⟨z,hz,rfl⟩:=List.mem_map.1 ho
   obtain⟨h1,h2⟩:=hairx y (hfil y hy).1 ha
   refine blocks_eq (hnum z) (hpage z) (hwr z) (hnum y) (hpage y) (hwr y) (fun hl=>?_) (h.rs.free y (hfil y hy).1 h1 z (hfil z hz).1)
   split at hl
   ·rename_i e
    rw[key z (hfil z hz).1 e];simp[Req.live,hra]
   ·exact hl
 have he:((t.rs.map fun x=>if x.num=r.num then St.landR t.now t.disk fault x else x).filter fun x=>!(x.num == r.num && (x.told && !x.inAir)))=((t.rs.filter fun x=>!(x.num == r.num && x.told)).map fun x=>if x.num=r.num then St.landR t.now t.disk fault x else x):=by
  rw[List.filter_map]
  congr 1
  refine List.filter_congr fun x hx=>?_
  simp only[Function.comp]
  by_cases e:x.num=r.num
  ·rw[if_pos e]
   have:=landR_num t.now t.disk fault x
   rw[this.1,this.2.2.2.1,this.2.2.2.2];simp[e]
  ·have e':(x.num == r.num)=false:=by simpa using e
   rw[if_neg e,e'];rfl
 have hL:t.land fault r.num={t with rs:=((t.rs.filter fun x=>!(x.num == r.num && x.told)).map fun x=>if x.num=r.num then St.landR t.now t.disk fault x else x),disk:=St.landD t.disk fault r}:=by
  unfold St.land
  rw[hf,<-he]
 rw[hL]
 refine⟨h.depth,h.head,?_,?_,h.last,h.now,hrs,?_,h.h40,by have:=land_soon h.soon fault r.num;rw[hL]at this;exact this⟩
 ·show (St.landD t.disk fault r).length=64
  unfold St.landD
  split
  ·rw[dput_len];exact h.dlen
  ·exact h.dlen
 ·show ∀ b∈St.landD t.disk fault r,0<=b/\b<=255
  unfold St.landD
  split
  ·exact dput_byte h.dbyte hro.byte
  ·exact h.dbyte
 ·show t.held=_
  rw[h.held,List.filter_map,List.length_map,List.filter_filter]
  congr 2
  refine List.filter_congr fun x hx=>?_
  simp only[Function.comp]
  by_cases e:x.num=r.num
  ·rw[if_pos e,(landR_num ..).2.2.2.2];cases x.told <;> simp[e]
  ·rw[if_neg e];simp[e]
theorem land_same{t:St}(fault:Bool)(n:Int):(t.land fault n).depth=t.depth/\(t.land fault n).cs=t.cs/\(t.land fault n).head=t.head/\(t.land fault n).now=t.now/\(t.land fault n).last=t.last/\(t.land fault n).held=t.held:=by
 unfold St.land
 split <;> exact⟨rfl,rfl,rfl,rfl,rfl,rfl⟩
theorem okA_lands(fault:Bool):∀ (ns:List Int) (t:St) (air:List Int),t.OkA (ns ++ air)->(ns.foldl (St.land fault) t).OkA air
 | [],_,_,h=>h
 | n :: ns,_,air,h=>okA_lands fault ns _ air (okA_land (n:=n) h fault)
theorem lands_same(fault:Bool):∀ (ns:List Int) (t:St),(ns.foldl (St.land fault) t).depth=t.depth/\(ns.foldl (St.land fault) t).cs=t.cs/\(ns.foldl (St.land fault) t).head=t.head/\(ns.foldl (St.land fault) t).now=t.now/\(ns.foldl (St.land fault) t).last=t.last/\(ns.foldl (St.land fault) t).held=t.held
 | [],_=>⟨rfl,rfl,rfl,rfl,rfl,rfl⟩
 | n :: ns,t=>by
   obtain⟨a1,a2,a3,a4,a5,a6⟩:=land_same (t:=t) fault n
   obtain⟨b1,b2,b3,b4,b5,b6⟩:=lands_same fault ns (t.land fault n)
   exact⟨b1.trans a1,b2.trans a2,b3.trans a3,b4.trans a4,b5.trans a5,b6.trans a6⟩
theorem land_keeps{t:St}(fault:Bool)(n:Int){r:Req}(hr:r∈t.rs)(hn:r.num≠n):r∈(t.land fault n).rs:=by
 unfold St.land
 split
 ·exact hr
 ·refine List.mem_filter.2 ⟨List.mem_map.2 ⟨r,hr,if_neg hn⟩,by simp[hn]⟩
theorem lands_keep(fault:Bool):∀ (ns:List Int) {t:St} {r:Req},r∈t.rs->r.num ∉ ns->r∈(ns.foldl (St.land fault) t).rs
 | [],_,_,h,_=>h
 | n :: ns,_,_,h,hn=>by
   rw[List.mem_cons,not_or]at hn
   exact lands_keep fault ns (land_keeps fault n h hn.1) hn.2
theorem perm_erase{α:Type}{l:List α}{k:Nat}{a:α}(hk:k<l.length)(h:l[k]=a):l.Perm (a :: l.eraseIdx k):=by
 have e1:l=l.take k ++ a :: l.drop (k+1):=by
  conv=>lhs;rw[<-List.take_append_drop k l,List.drop_eq_getElem_cons hk,h]
 have e2:l.eraseIdx k=l.take k ++ l.drop (k+1):=List.eraseIdx_eq_take_drop_succ ..
 rw[e2]
 conv=>lhs;rw[e1]
 exact List.perm_middle
theorem ok_complete{t t':St}(h:t.Ok){k:Nat}{fault:Bool}(hc:t.complete k fault=some t'):t'.Ok:=by
 unfold St.complete at hc
 cases hk:t.cs[k]? with
 | none=>rw [hk]at hc;cases hc
 | some c=>
   rw[hk]at hc
   simp only[Option.some.injEq]at hc
   obtain⟨hlt,hck⟩:=List.getElem?_eq_some_iff.1 hk
   have hperm:(t.cs.flatMap (·.nums)).Perm (c.nums ++ (t.cs.eraseIdx k).flatMap (·.nums)):=by
    have h1:t.cs.Perm (c :: t.cs.eraseIdx k):=perm_erase hlt hck
    have:=h1.flatMap_right (·.nums)
    simpa using this
   have hA:({t with cs:=t.cs.eraseIdx k}:St).OkA (c.nums ++ (t.cs.eraseIdx k).flatMap (·.nums)):=
    ⟨h.a.depth,h.a.head,h.a.dlen,h.a.dbyte,h.a.last,h.a.now,⟨h.a.rs.nums,h.a.rs.num,h.a.rs.ok,hperm.nodup_iff.1 h.a.rs.nodup,fun n hn=>h.a.rs.fly n (hperm.mem_iff.2 hn),fun r hr ha=>hperm.mem_iff.1 (h.a.rs.airs r hr ha),h.a.rs.free⟩,h.a.held,h.a.h40,h.a.soon⟩
   have hL:=okA_lands fault c.nums _ _ hA
   obtain⟨a1,a2,a3,a4,a5,a6⟩:=lands_same fault c.nums {t with cs:=t.cs.eraseIdx k}
   have hnd:=hA.rs.nodup
   rw[List.nodup_append]at hnd
   subst hc
   refine⟨by rw[a2];exact hL,?_,fun x hx=>?_⟩
   ·rw[a2,a1]
    show (t.cs.eraseIdx k).length<=t.depth
    have:=h.len
    exact Nat.le_trans (List.length_eraseIdx_le _ _) this
   ·rw[a2]at hx
    have hx':x∈t.cs:=(List.eraseIdx_sublist _ _).subset hx
    refine (h.cmds x hx').mono fun r hr hrx=>⟨r,lands_keep fault c.nums (t:={t with cs:=t.cs.eraseIdx k}) hr fun hm=>?_,rfl,rfl,rfl⟩
    exact hnd.2.2 r.num hm r.num (List.mem_flatMap.2 ⟨x,hx,hrx⟩) rfl
theorem kept_facts{rs:List Req}(hb:∀ r∈rs,BOk r.data)(f:Nat->Bool):∀ (ns:List Int) (i:Nat) (d:List Int),(∀ x∈d,0<=x/\x<=255)->(St.kept rs ns f i d).length=d.length/\∀ x∈St.kept rs ns f i d,0<=x/\x<=255
 | [],_,_,hd=>⟨rfl,hd⟩
 | n :: l,i,d,hd=>by
   unfold St.kept
   split
   ·cases hf:rs.find? fun r=>r.num == n with
    | none=>exact kept_facts hb f l (i+1) d hd
    | some r=>
      have:=kept_facts hb f l (i+1) (dput d r.page r.data) (dput_byte hd (hb r (List.mem_of_find?_eq_some hf)))
      exact⟨this.1.trans (dput_len ..),this.2⟩
   ·exact kept_facts hb f l (i+1) d hd
theorem ok_crash{t:St}(h:t.Ok)(f:Nat->Bool):(t.crash f).Ok:=by
 obtain⟨h1,h2⟩:=kept_facts (fun r hr=>(h.a.rs.ok r hr).byte) f ((t.cs.filter (·.write)).flatMap (·.nums)) 0 t.disk h.a.dbyte
 exact⟨⟨h.a.depth,by simp[St.crash],h1.trans h.a.dlen,h2,h.a.last,h.a.now,⟨by simp[St.crash],by simp[St.crash],by simp[St.crash],by simp[St.crash],by simp[St.crash],by simp[St.crash],by simp[St.crash]⟩,by simp[St.crash],by simp[St.crash],soon_crash t f⟩,by simp[St.crash],by simp[St.crash]⟩
theorem complete_same{t t':St}{k:Nat}{fault:Bool}(h:t.complete k fault=some t'):t'.last=t.last/\t'.now=t.now/\t'.held=t.held:=by
 unfold St.complete at h
 split at h
 ·cases h
 ·simp only[Option.some.injEq]at h
  subst h
  rename_i c _
  obtain⟨_,_,_,a4,a5,a6⟩:=lands_same fault c.nums {t with cs:=t.cs.eraseIdx k}
  exact⟨a5,a4,a6⟩
end
section
open Go.RowKit
abbrev ptr(p:Nat):Value:=.pointer (some ⟨p,0,none⟩)
def Ent.m(e:Ent):MapEntry:={key:=.int .i64 e.r.num,val:=ptr e.p,born:=e.born}
abbrev mapObj(es:List Ent)(clock:Nat):Obj:=.map (es.map Ent.m).toArray clock
theorem findNow_no(k:Int):∀ (es:List Ent) (i:Nat),(∀ e∈es,e.r.num≠k)->Instr.findNow (.int .i64) (.int .i64 k) (es.map Ent.m) i=some none
 | [],_,_=>rfl
 | e :: es,i,h=>by
   have h1:(k == e.r.num)=false:=by simpa using fun hh=>h e (by simp) hh.symm
   simp only[List.map_cons,Instr.findNow,Ent.m,Instr.sameNow,if_true,h1]
   exact findNow_no k es (i+1) fun x hx=>h x (by simp[hx])
theorem findNow_yes(k:Int)(e:Ent)(l2:List Ent)(he:e.r.num=k):∀ (l1:List Ent) (i:Nat),(∀ x∈l1,x.r.num≠k)->
  Instr.findNow (.int .i64) (.int .i64 k) ((l1 ++ e :: l2).map Ent.m) i=some (some (i+l1.length,ptr e.p))
 | [],i,_=>by simp[Instr.findNow,Ent.m,Instr.sameNow,he]
 | x :: l1,i,h=>by
   have h1:(k == x.r.num)=false:=by simpa using fun hh=>h x (by simp) hh.symm
   simp only[List.cons_append,List.map_cons,Instr.findNow,Ent.m,Instr.sameNow,if_true,h1]
   have:=findNow_yes k e l2 he l1 (i+1) fun y hy=>h y (by simp[hy])
   rw[this];simp;omega
section
variable {P:Program} {T K E:TypeId} {w:World} {mb clock:Nat} {es:List Ent}
theorem run_checkKey_int(hK:P.underlying K=some (.int .i64))(b:Bool)(k:Int)(w:World):(Instr.checkKey b 10000 K (.int .i64 k)).run P w=.ok () w:=by
 unfold Instr.checkKey
 simp[run_underlying hK]
theorem getObj_run{w:World}{r:Nat}{o:Obj}(h:w.heap[r]?=some o)(hn:∀ c t f,o≠.cells c t f):(getObj r).run P w=.ok o w:=by
 cases o <;> first | exact absurd rfl (hn _ _ _) | simp[getObj,Sem.run,h]
theorem setObj_run{w:World}{r:Nat}{o:Obj}(o':Obj)(h:w.heap[r]?=some o)(hn:∀ c t f,o≠.cells c t f):(setObj r o').run P w=.ok () (w.putObj r o'):=by
 cases o <;> first | exact absurd rfl (hn _ _ _) | simp[setObj,Sem.run,h,World.putObj]
theorem getMap_run{w:World}{es:List Ent}(h:w.heap[mb]?=some (mapObj es clock)):(getObj mb).run P w=.ok (mapObj es clock) w:=getObj_run h (by simp)
theorem setMap_run{w:World}{es:List Ent}(o:Obj)(h:w.heap[mb]?=some (mapObj es clock)):(setObj mb o).run P w=.ok () (w.putObj mb o):=setObj_run o h (by simp)
theorem run_findKey{w:World}(hK:P.underlying K=some (.int .i64))(k:Int)(l:List MapEntry)(r:Option (Nat×Value))(h:Instr.findNow (.int .i64) (.int .i64 k) l 0=some r):
  (Instr.findKey K (.int .i64 k) l).run P w=.ok r w:=by
 simp[Instr.findKey,run_underlying hK,h,Result.andThen]
theorem run_lookup_no(hT:P.underlying T=some (.map K E))(hK:P.underlying K=some (.int .i64))(hz:∀ w,(zeroValue E).run P w=.ok (.pointer none) w)(hm:w.heap[mb]?=some (mapObj es clock))(k:Int)(h:∀ e∈es,e.r.num≠k):
  (Instr.lookup T (.map (some mb)) (.int .i64 k) true).run P w=.ok (.tuple #[.pointer none,.bool false]) w/\(Instr.lookup T (.map (some mb)) (.int .i64 k) false).run P w=.ok (.pointer none) w:=by
 constructor <;> simp[Instr.lookup,run_underlying hT,getMap_run hm,run_checkKey_int hK,run_findKey hK k _ _ (findNow_no k es 0 h),hz,Result.andThen]
theorem run_lookup_yes{l1 l2:List Ent}{e:Ent}(hT:P.underlying T=some (.map K E))(hK:P.underlying K=some (.int .i64))(hm:w.heap[mb]?=some (mapObj (l1 ++ e :: l2) clock))(k:Int)(he:e.r.num=k)(h:∀ x∈l1,x.r.num≠k):
  (Instr.lookup T (.map (some mb)) (.int .i64 k) true).run P w=.ok (.tuple #[ptr e.p,.bool true]) w/\(Instr.lookup T (.map (some mb)) (.int .i64 k) false).run P w=.ok (ptr e.p) w:=by
 have f:=run_findKey (P:=P) (w:=w) hK k _ _ (findNow_yes k e l2 he l1 0 h)
 simp only[List.map_append,List.map_cons]at f
 constructor <;> simp[Instr.lookup,run_underlying hT,getMap_run hm,run_checkKey_int hK,f,Result.andThen]
theorem run_update_new(hT:P.underlying T=some (.map K E))(hK:P.underlying K=some (.int .i64))(hm:w.heap[mb]?=some (mapObj es clock))(r:Req)(p:Nat)(h:∀ e∈es,e.r.num≠r.num):
  (Instr.mapUpdate T (.map (some mb)) (.int .i64 r.num) (ptr p)).run P w=.ok () (w.putObj mb (mapObj (es ++ [⟨r,p,clock⟩]) (clock+1))):=by
 simp[Instr.mapUpdate,run_underlying hT,getMap_run hm,run_checkKey_int hK,run_findKey hK r.num _ _ (findNow_no r.num es 0 h),Result.andThen,setMap_run _ hm]
 simp[mapObj,Ent.m]
theorem run_delete_yes{l1 l2:List Ent}{e:Ent}{ty:TypeId}(hT:P.underlying T=some (.map K E))(hK:P.underlying K=some (.int .i64))(hm:w.heap[mb]?=some (mapObj (l1 ++ e :: l2) clock))(he:∀ x∈l1,x.r.num≠e.r.num):
  (Builtin.delete_ #[T,K] ty #[.map (some mb),.int .i64 e.r.num]).run P w=.ok (.tuple #[]) (w.putObj mb (mapObj (l1 ++ l2) clock)):=by
 have f:=run_findKey (P:=P) (w:=w) hK e.r.num _ _ (findNow_yes e.r.num e l2 rfl l1 0 he)
 simp only[List.map_append,List.map_cons]at f
 have hl:((l1 ++ e :: l2).map Ent.m).toArray.eraseIdxIfInBounds l1.length=((l1 ++ l2).map Ent.m).toArray:=by
  simp[Array.eraseIdxIfInBounds,List.eraseIdx_append_of_length_le]
 simp only[Builtin.delete_]
 simp[run_underlying hT,getMap_run hm,run_checkKey_int hK,f,Result.andThen,setMap_run _ hm]
 simp at hl
 rw[hl]
 simp[mapObj]
theorem choose_next{w:World}{n:Nat}(h:0<n):∃ k,k<n/\((choose (.mapNext n)).run P w=.ok k w\/(choose (.mapNext n)).run P w=.ok k w.drew):=by
 by_cases h1:n<=1
 ·exact⟨0,h,.inl (by simp[Question.forced,h1])⟩
 ·exact⟨_,Nat.mod_lt _ h,.inr (by simp[Question.forced,h1,Question.cut];rfl)⟩
theorem run_range_map(hT:P.underlying T=some (.map K E))(hm:w.heap[mb]?=some (mapObj es clock)):
  (Instr.range T (.map (some mb))).run P w=.ok (ptr w.heap.size) (w.alloc (.mapIter (some mb) clock #[] clock)):=by
 simp[Instr.range,run_underlying hT,getMap_run hm,Result.andThen]
abbrev iterObj(mb clock:Nat)(seen:List Nat):Obj:=.mapIter (some mb) clock seen.toArray clock
def leftOf(es:List Ent)(seen:List Nat):List Ent:=es.filter fun e=>!seen.contains e.born
theorem filter_m(f:MapEntry->Bool)(es:List Ent):((es.map Ent.m).toArray.filter f)=((es.filter fun e=>f e.m).map Ent.m).toArray:=by
 simp[List.filter_map,Function.comp_def]
theorem next_over(ty:TypeId)(it:Nat)(seen:List Nat)(hI:w.heap[it]?=some (iterObj mb clock seen))(hm:w.heap[mb]?=some (mapObj es clock))(hb:∀ e∈es,e.born<clock)(hl:leftOf es seen=[]):
  (Instr.next (ptr it) false ty).run P w=.ok (.tuple #[.bool false]) w:=by
 have h1:(!seen.toArray.isEmpty && !(es.map Ent.m).toArray.isEmpty && (es.map Ent.m).toArray.all fun x=>decide (x.born>=clock))=false:=by
  cases es with
  | nil=>simp
  | cons e es=>have:=hb e (by simp);simp[Ent.m];omega
 have h2:((es.map Ent.m).toArray.filter fun e=>!seen.toArray.contains e.born)=#[]:=by
  rw[filter_m]
  have:(es.filter fun e=>!seen.toArray.contains e.m.born)=leftOf es seen:=by simp[leftOf,Ent.m]
  rw[this,hl];rfl
 have hi:=getObj_run (P:=P) hI (by simp)
 simp only[Instr.next,Sem.run_bind,hi,getMap_run hm,Result.andThen]
 simp only[h1,h2]
 simp[Question.forced]
theorem next_some(ty:TypeId)(it:Nat)(seen:List Nat)(hI:w.heap[it]?=some (iterObj mb clock seen))(hm:w.heap[mb]?=some (mapObj es clock))(hb:∀ e∈es,e.born<clock)(hl:leftOf es seen≠[]):
  ∃ e∈leftOf es seen,∃ w',(Instr.next (ptr it) false ty).run P w=.ok (.tuple #[.bool true,.int .i64 e.r.num,ptr e.p]) w'/\(w'=w.putObj it (iterObj mb clock (seen ++ [e.born]))\/w'=w.drew.putObj it (iterObj mb clock (seen ++ [e.born]))):=by
 have h1:(!seen.toArray.isEmpty && !(es.map Ent.m).toArray.isEmpty && (es.map Ent.m).toArray.all fun x=>decide (x.born>=clock))=false:=by
  cases es with
  | nil=>simp
  | cons e es=>have:=hb e (by simp);simp[Ent.m];omega
 have h2:((es.map Ent.m).toArray.filter fun e=>!seen.toArray.contains e.born)=((leftOf es seen).map Ent.m).toArray:=by
  rw[filter_m]
  have:(es.filter fun e=>!seen.toArray.contains e.m.born)=leftOf es seen:=by simp[leftOf,Ent.m]
  rw[this]
 have h3:(((leftOf es seen).map Ent.m).toArray.filter fun x=>decide (x.born<clock))=((leftOf es seen).map Ent.m).toArray:=by
  rw[filter_m]
  congr 2
  refine List.filter_eq_self.2 fun e he=>?_
  exact decide_eq_true (hb e (List.mem_filter.1 he).1)
 have h4:(((leftOf es seen).map Ent.m).toArray.filter fun x=>decide (x.born>=clock))=#[]:=by
  rw[filter_m]
  have:((leftOf es seen).filter fun e=>decide (e.m.born>=clock))=[]:=by
   refine List.filter_eq_nil_iff.2 fun e he=>?_
   have:=hb e (List.mem_filter.1 he).1
   simp[Ent.m];omega
  rw[this];rfl
 have hi:=getObj_run (P:=P) hI (by simp)
 have hi2:=fun o'=>setObj_run (P:=P) o' hI (by simp)
 have hI3:w.drew.heap[it]?=some (iterObj mb clock seen):=hI
 have hi3:=fun o'=>setObj_run (P:=P) o' hI3 (by simp)
 simp only[Instr.next,Sem.run_bind,hi,getMap_run hm,Result.andThen]
 simp only[h1,h2,h3,h4]
 generalize leftOf es seen=L at *
 clear h1 h2 h3 h4 hi hb
 have hC:((if (L.map Ent.m).toArray.isEmpty=true then #[none]else #[]) ++ Array.map some ((L.map Ent.m).toArray ++ #[]))=(L.map fun e=>some e.m).toArray:=by
  cases L with
  | nil=>exact absurd rfl hl
  | cons e L=>simp [Function.comp_def]
 simp only[hC]
 obtain⟨k,hk,hch⟩:=choose_next (P:=P) (w:=w) (n:=L.length) (by cases L with | nil=>exact absurd rfl hl | cons=>simp)
 have hget:(L.map fun e=>some e.m).toArray[k]?=some (some (L[k]'hk).m):=by simp[hk]
 refine⟨L[k],List.getElem_mem hk,?_⟩
 rcases hch with hch | hch
 ·refine⟨_,?_,.inl rfl⟩
  simp only[List.size_toArray,List.length_map,Bool.false_eq_true,if_false,Sem.run_bind,hch,Result.andThen,hget]
  simp[hi2,Ent.m]
 ·refine⟨_,?_,.inr rfl⟩
  simp only[List.size_toArray,List.length_map,Bool.false_eq_true,if_false,Sem.run_bind,hch,Result.andThen,hget]
  simp[hi3,Ent.m]
theorem find_born:∀ (es:List Ent) {e:Ent},e∈es->(es.map Ent.born).Nodup->es.find? (fun x=>x.m.born == e.born)=some e
 | [],_,he,_=>by cases he
 | x :: xs,e,he,hn=>by
   simp only[List.map_cons,List.nodup_cons]at hn
   by_cases hx:x=e
   ·subst hx;simp[Ent.m]
   ·have hmem:e∈xs:=by cases he with | head=>exact absurd rfl hx | tail _ h=>exact h
    have hne:x.born≠e.born:=fun hh=>hn.1 (hh ▸ List.mem_map_of_mem hmem)
    simp only[List.find?_cons]
    have:(x.m.born == e.born)=false:=by simpa[Ent.m]using hne
    rw[this]
    exact find_born xs hmem hn.2
theorem entry_run(it:Nat)(seen:List Nat){e:Ent}(hI:w.heap[it]?=some (iterObj mb clock (seen ++ [e.born])))(hm:w.heap[mb]?=some (mapObj es clock))(he:e∈es)(hn:(es.map Ent.born).Nodup):
  (Instr.entry (ptr it)).run P w=.ok (.tuple #[.int .i64 e.r.num,ptr e.p]) w:=by
 have hf:(es.map Ent.m).toArray.find? (fun x=>x.born == e.born)=some e.m:=by
  simp only[List.find?_toArray,List.find?_map,Function.comp_def]
  rw[find_born es he hn];rfl
 have hi:=getObj_run (P:=P) hI (by simp)
 simp only[Instr.entry,Sem.run_bind,hi,Result.andThen]
 simp[hf,getMap_run hm,Ent.m,Result.andThen]
end
end
section
open Go.RowKit Go.Shelf
set_option maxRecDepth 100000
set_option maxHeartbeats 8000000
attribute [local go_sem] Oper.semAt_some
def iterLeft(n it:Nat)(w:World):Nat:=
 match w.heap[it]? with
 | some (.mapIter _ _ seen _)=>n - seen.size
 | _=>0
theorem iterLeft_eq{n it mb clock:Nat}{seen:List Nat}{w:World}(h:w.heap[it]?=some (iterObj mb clock seen)):iterLeft n it w=n - seen.length:=by
 simp[iterLeft,h]
theorem nodup_of_born{es:List Ent}(h:(es.map Ent.born).Nodup):es.Nodup:=(List.pairwise_map.1 h).imp fun hne heq=>hne (by rw[heq])
theorem left_perm{es vs:List Ent}(hv:∀ v∈vs,v∈es)(hnd:(es.map Ent.born).Nodup)(hvn:(vs.map Ent.born).Nodup)(hl:leftOf es (vs.map Ent.born)=[]):vs.Perm es:=by
 have hes:es.Nodup:=nodup_of_born hnd
 have hvs:vs.Nodup:=nodup_of_born hvn
 refine (List.perm_ext_iff_of_nodup hvs hes).2 fun a=>⟨hv a,fun ha=>?_⟩
 by_cases hc:a.born∈vs.map Ent.born
 ·obtain⟨b,hb,hbe⟩:=List.mem_map.1 hc
  have:b=a:=by
   have h1:=find_born es (hv b hb) hnd
   have h2:=find_born es ha hnd
   rw[hbe]at h1
   rw[h1]at h2
   exact Option.some.inj h2
  exact this ▸ hb
 ·exfalso
  have:a∈leftOf es (vs.map Ent.born):=List.mem_filter.2 ⟨ha,by simpa using hc⟩
  rw[hl]at this;cases this
theorem len_lt_of_left{es vs:List Ent}{e:Ent}(hv:∀ v∈vs,v∈es)(hvn:(vs.map Ent.born).Nodup)(he:e∈leftOf es (vs.map Ent.born)):vs.length<es.length:=by
 have hmem:=(List.mem_filter.1 he).1
 have hnb:e.born ∉ vs.map Ent.born:=by simpa using (List.mem_filter.1 he).2
 have hvs:vs.Nodup:=nodup_of_born hvn
 have hne:e ∉ vs:=fun h=>hnb (List.mem_map_of_mem h)
 have:(e :: vs).length<=es.length:=List.Nodup.length_le_of_subset (List.nodup_cons.2 ⟨hne,hvs⟩) (fun x hx=>by cases hx with | head=>exact hmem | tail _ h=>exact hv x h)
 simp at this
 omega
theorem values1_in(F:Fence)(n:Nat)(hf:F.fn 120)(hro:F.round=none)(hn:1<=n)(l Bm mb clock:Nat)(es:List Ent)(J Jx:List Ent->World->Prop)
  (hY:∀ pre x W,J pre W->pre.length<es.length->YieldAt F (n - 1) Tryx.prog l #[ptr x.p] W fun e W'=>
    (e=.returned (.bool true)/\J (pre ++ [x]) W'/\KeepsWalks W W')\/(e=.returned (.bool false)/\Jx (pre ++ [x]) W'))
  (W:World) (hJ:AbidesFrom W.heap.size J) (hm:W.cell? ⟨Bm,0,none⟩=some (.map (some mb))) (hmap:W.heap[mb]?=some (mapObj es clock)) (hb:∀ e∈es,e.born<clock) (hnd:(es.map Ent.born).Nodup) (h0:J [] W):
  CallsIn F n Tryx.prog 120 #[.func (.yield l) #[] #[],ptr Bm] W fun e W'=>(∃ v,e=.returned v)/\
   ((∃ xs,xs.Perm es/\J xs W')\/(∃ pre,True/\Jx pre W')):=by
 have hml:=lt_of_heap hmap
 have hrg:=run_range_map (P:=Tryx.prog) (w:=W) Tryx.underlying146 hmap
 refine callsIn_of_wp Tryx.func120 rfl hf ?_ hro
 simp only[Tryz.ntmps120,List.size_toArray,List.length_cons,List.length_nil,Nat.reduceAdd,Nat.reduceSub,Array.replicate_succ,Array.replicate_zero,List.push_toArray,List.append_toArray,List.nil_append,List.cons_append]
 gi_wp2
 gi_loopw [4] (fun _ wr=>∃ vs:List Ent,wr.heap[W.heap.size]?=some (iterObj mb clock (vs.map Ent.born))/\wr.heap[mb]?=some (mapObj es clock)/\(∀ v∈vs,v∈es)/\(vs.map Ent.born).Nodup/\J vs wr)
  (fun _ wr=>iterLeft es.length W.heap.size wr)
 case atStart=>
  refine⟨[],World.alloc_heap_new W _,(Below.heap_alloc _ _ _ hml).trans hmap,by simp,by simp,?_⟩
  exact hJ [] W _ none h0 (World.grownBy_alloc W _ none) (fun r e=>by cases e)
 case round=>
  obtain⟨vs,hI,hM,hve,hvn,hJs⟩:=hrel
  by_cases hl:leftOf es (vs.map Ent.born)=[]
  ·have hnx:=fun ty=>next_over (P:=Tryx.prog) ty _ _ hI hM hb hl
   have hp:=left_perm hve hnd hvn hl
   gi_wp2
   go_end0
   exact⟨⟨_,rfl⟩,.inl ⟨vs,hp,hJs⟩⟩
  ·obtain⟨e,he,w2,hnx,hw2⟩:=next_some (P:=Tryx.prog) 0 _ _ hI hM hb hl
   have hlt:=len_lt_of_left hve hvn he
   have hee:=(List.mem_filter.1 he).1
   have hnb:e.born ∉ vs.map Ent.born:=by simpa using (List.mem_filter.1 he).2
   have hml2:=lt_of_heap hM
   have hil:=lt_of_heap hI
   have hI2:w2.heap[W.heap.size]?=some (iterObj mb clock ((vs ++ [e]).map Ent.born)):=by
    rcases hw2 with rfl | rfl
    ·rw[World.putObj_heap_same hil];simp
    ·rw[World.putObj_heap_same (by simpa using hil)];simp
   have hM2:w2.heap[mb]?=some (mapObj es clock):=by
    rcases hw2 with rfl | rfl <;> rw[World.putObj_heap_other (by omega)]
    ·exact hM
    ·exact hM
   have hg2:wr.grownBy w2 (some W.heap.size):=by
    rcases hw2 with rfl | rfl
    ·exact grownBy_putObj' _ _ _
    ·exact⟨rfl,rfl,rfl,by simp,fun k _ hk=>World.putObj_heap_other (fun e=>hk (by rw[e]))⟩
   have hJ2:J vs w2:=hJ vs wr w2 (some W.heap.size) hJs hg2 (fun r e=>by cases e;exact⟨Nat.le_refl _,_,hI,rfl⟩)
   have hen:=entry_run (P:=Tryx.prog) (w:=w2) _ _ (by simpa using hI2) hM2 hee hnd
   obtain⟨fn,tmps,assign,body,hy,hR⟩:=hY vs e w2 hJ2 hlt
   clear hw2
   have HI2:=Lib.hid hI2
   have HM2:=Lib.hid hM2
   have HI:=Lib.hid hI
   clear hI2 hM2 hI hM hmap hrg
   gi_wp2
   refine hR.mono ?_
   have hve':∀ v∈vs ++ [e],v∈es:=fun v hv=>(List.mem_append.1 hv).elim (hve v) (fun h=>by simp at h;subst h;exact hee)
   have hvn':((vs ++ [e]).map Ent.born).Nodup:=by
    rw[List.map_append]
    exact List.nodup_append.2 ⟨hvn,by simp,fun a ha b hb hab=>by simp at hb;subst hb;exact hnb (hab ▸ ha)⟩
   rintro e' W3 (⟨rfl,hJ3,hk3⟩ |⟨rfl,hJx3⟩)
   ·gi_wp2
    have hI3:=hk3.same _ _ HI2.out rfl
    go_roundw
    case rel=>exact ⟨vs ++ [e],hI3,hk3.same _ _ HM2.out rfl,hve',hvn',hJ3⟩
    case measure=>rw [iterLeft_eq hI3,iterLeft_eq HI.out];simp;omega
   ·gi_wp2
    refine bodyPost_ret (results_none rfl _ _ _) rfl ?_
    exact⟨⟨_,rfl⟩,.inr ⟨vs ++ [e],trivial,hJx3⟩⟩
theorem values_in(F:Fence)(n:Nat)(hf:F.fn 103)(hro:F.round=none)(m:Option Nat)(w:World):
  CallsIn F n Tryx.prog 103 #[.map m] w fun e w'=>e=.returned (.func (.func 120) #[] #[ptr w.heap.size])/\w'=w.alloc (.cells #[.map m] 146):=by
 refine callsIn_of_wp Tryx.func103 rfl hf ?_ hro
 simp only[Tryz.ntmps103,List.size_toArray,List.length_cons,List.length_nil,Nat.reduceAdd,Nat.reduceSub,Array.replicate_succ,Array.replicate_zero,List.push_toArray,List.append_toArray,List.nil_append,List.cons_append]
 gi_wp2
 go_ret
 exact⟨rfl,rfl⟩
theorem values_stops(F:Fence)(n:Nat)(hf:F.fn 120)(hro:F.round=none)(hn:1<=n)(Bm mb clock:Nat)(es:List Ent)(w:World)(hBm:Bm<w.heap.size)
  (hm:w.cell? ⟨Bm,0,none⟩=some (.map (some mb))) (hmap:w.heap[mb]?=some (mapObj es clock)) (hb:∀ e∈es,e.born<clock) (hnd:(es.map Ent.born).Nodup):
  SeqStopsK F n Tryx.prog 120 #[ptr Bm] (fun e:Ent=>#[ptr e.p]) KeepsWalks (fun xs=>xs.Perm es) (fun _=>True) es.length w:=fun l J Jx W hW hJ _ hY h0=>
 values1_in F n hf hro hn l Bm mb clock es J Jx hY W hJ ((hW.cell (p:=⟨Bm,0,none⟩) hBm).trans hm) ((hW.block mb (lt_of_heap hmap)).trans hmap) hb hnd h0
theorem Tryz.infoP:(Tryx.prog.info? 97).map (fun i=>(i.zero,i.size,i.bytes))=some (some (.pointer none),1,8):=by kernel_rfl
theorem appendSeq_in(F:Fence)(n:Nat)(hf:F.fn 129)(hg:F.fn 120)(hro:F.round=none)(hn:3<=n)(Bm:Nat)(S:List Ent->Prop)(N:Nat)(hN:N<=1000000)
  (w:World) (hs:SeqStopsK F (n - 1) Tryx.prog 120 #[ptr Bm] (fun e:Ent=>#[ptr e.p]) KeepsWalks S (fun _=>True) N w):
  CallsIn F n Tryx.prog 129 #[.slice none 0 0,.func (.func 120) #[] #[ptr Bm]] w fun e W'=>
   ∃ v vs,e=.returned v/\S vs/\W'.ownsRow w.heap.size 97 1 v vs.length (vs.map fun e=>ptr e.p)/\Below w.heap.size w W':=by
 have h1:1<=n:=by omega
 obtain⟨i0,hi,hz0,hz1,hz2⟩:=info_parts Tryz.infoP
 refine callsIn_of_wp_marks Tryx.func129 rfl hf ?_ hro
 simp only[Tryz.ntmps129,List.size_toArray,List.length_cons,List.length_nil,Nat.reduceAdd,Nat.reduceSub,Array.replicate_succ,Array.replicate_zero,List.push_toArray,List.append_toArray,List.nil_append,List.cons_append]
 have HS:=Lib.hid hs
 clear hs
 gi_wp2
 have bO:=Boxed.new w 90 (.slice none 0 0)
 have hB0:Below w.heap.size w (w.alloc (.cells #[.slice none 0 0] 90)):=(Below.refl _ w).alloc (Nat.le_refl _) _
 refine wpIn_rangeFunc_ownG hro h1 (gf:=120) (lb:=#[ptr Bm]) rfl hg (enters_of Tryx.func120 (by kernel_rfl) rfl)
  (fun l J Jx W' hW hJ hJx hY h0=>HS.out l J Jx W' (hB0.trans (hW.mono hB0.size)) hJ hJx hY h0) walksK_t walksK_b (Below.refl _ _) (fun _=>rfl)
  (fun (pre:List Ent) W=>(∃ v,Boxed W w.heap.size 90 v/\W.ownsRow w.heap.size 97 1 v pre.length (pre.map fun e:Ent=>ptr e.p)/\True)/\Below w.heap.size w W)
  (fun _ _ _=>False)
  (OwnFrom.and (Own.from (holdsRow_own w.heap.size w.heap.size 90 97 1 (fun pre:List Ent=>pre.length) (fun pre:List Ent=>pre.map fun e=>ptr e.p) (fun (_:List Ent) _=>True)) _) (ownFrom_below (Nat.le_refl _) (by simp)))
  (fun _ _ _ _ _ hs _ _=>hs)
  ⟨⟨_,bO,World.ownsRow_nil _ _ _ _,trivial⟩,hB0⟩
  (fun x:Ent=>{tmps:=#[.slice none 0 0,.func (.func 120) #[] #[ptr Bm],ptr w.heap.size,undef,.slice none 0 0,ptr x.p,.func (.func 120) #[] #[ptr Bm],ptr x.p,undef,undef,undef,undef,undef],defers:=[]}) ?assign ?body ?done ?stop
 case assign=>
  intro l x W K hK
  gi_wp2
  exact hK
 case body=>
  rintro l pre x W ⟨⟨v,hv,hrow,_⟩,hB⟩ hlt
  have hc:=hv.cell
  gi_wp2_with (gi_at_builtin;refine wpListIn_append_own _ rfl _ _ 90 rfl w.heap.size 97 i0 (.pointer none) 1 8 Tryx.underlying90 hi hz0 hz1 hz2 rfl (by decide) _ _ _ rfl (hrow.alloc _) ⟨W.heap.size,0,none⟩ 1 1 [ptr x.p] rfl rfl (cell_one_new _ _ _) (by simp[Value.oneCell']) (by unfold maxLen;omega) (by omega) (by have:=hB.size;simp;omega) ?_;intro v' w1 hown' hgrow _;obtain⟨g',cap',rfl⟩:=ownsRow_succ hown';obtain⟨hv1,hv2,hr2,hk2,hb2⟩:=hv.appended (by decide) hrow hB.size (Nat.le_refl _) hown' hgrow;have hc1:=hv1.cell;have hf1:=hv1.frozen)
  exact⟨hk2.from _,hk2.walks,⟨_,hv2,by simpa using hr2,trivial⟩,hB.trans hb2⟩
 case done=>
  rintro D ys W hD hS ⟨⟨v,hv,hrow,_⟩,hB⟩ hK
  have hc:=hv.cell
  gi_wp2
  refine⟨by simp,.inl ⟨_,_,rfl,run_takeDeferred hK,?_⟩⟩
  exact⟨_,results_tmp rfl _ _ _,v,ys,rfl,hS,ownsRow_putObj hrow _ hK rfl,hB.trans (belowK_b (w:=w) (Nat.le_refl _) W D _ _ (by simp at hD;omega) hK rfl rfl)⟩
 case stop=>
  rintro D c pre W _ _ h _
  exact h.elim
theorem collect_in(F:Fence)(n:Nat)(hf:F.fn 118)(hf2:F.fn 129)(hg:F.fn 120)(hro:F.round=none)(hn:4<=n)(Bm:Nat)(S:List Ent->Prop)(N:Nat)(hN:N<=1000000)
  (w:World) (hs:SeqStopsK F (n - 1 - 1) Tryx.prog 120 #[ptr Bm] (fun e:Ent=>#[ptr e.p]) KeepsWalks S (fun _=>True) N w):
  CallsIn F n Tryx.prog 118 #[.func (.func 120) #[] #[ptr Bm]] w fun e W'=>
   ∃ v vs,e=.returned v/\S vs/\W'.ownsRow w.heap.size 97 1 v vs.length (vs.map fun e=>ptr e.p)/\Below w.heap.size w W':=by
 have h1:1<=n:=by omega
 refine callsIn_of_wp Tryx.func118 rfl hf ?_ hro
 simp only[Tryz.ntmps118,List.size_toArray,List.length_cons,List.length_nil,Nat.reduceAdd,Nat.reduceSub,Array.replicate_succ,Array.replicate_zero,List.push_toArray,List.append_toArray,List.nil_append,List.cons_append]
 have HS:=Lib.hid hs
 clear hs
 gi_wp2_with (gi_at_call 129;refine (appendSeq_in F (n - 1) hf2 hg hro (by omega) Bm S N hN _ HS.out).mono ?_;rintro e w' ⟨v,vs,rfl,hS,hrow,hb⟩)
 go_ret
 exact⟨v,vs,rfl,hS,hrow,hb⟩
theorem collect_any(Bm mb clock:Nat)(es:List Ent)(w:World)(hlen:es.length<=1000000)(hm:w.cell? ⟨Bm,0,none⟩=some (.map (some mb)))(hmap:w.heap[mb]?=some (mapObj es clock))(hb:∀ e∈es,e.born<clock)(hnd:(es.map Ent.born).Nodup):
  Calls Tryx.prog 118 #[.func (.func 120) #[] #[ptr Bm]] w fun e W'=>
   ∃ (v:Value) (vs:List Ent),e=.returned v/\vs.Perm es/\W'.ownsRow w.heap.size 97 1 v vs.length (vs.map fun e=>ptr e.p)/\Below w.heap.size w W':=
 (callsIn_wide (n:=6)).1 (collect_in Fence.wide 6 trivial trivial trivial rfl (by omega) Bm _ es.length hlen w
   (values_stops Fence.wide (6 - 1 - 1) trivial rfl (by omega) Bm mb clock es w (lt_of_cell hm) hm hmap hb hnd))
end
section
open Go.RowKit
set_option maxRecDepth 100000
set_option maxHeartbeats 8000000
structure ReqAt(w:World)(p:Nat)(r:Req):Prop where
 c0:w.cell? ⟨p,0,none⟩=some (.int .i64 r.num)
 c1:w.cell? ⟨p,1,none⟩=some (.bool r.write)
 c2:w.cell? ⟨p,2,none⟩=some (.int .i64 r.page)
 c3:w.cell? ⟨p,3,none⟩=some (.int .u8 r.data.a)
 c4:w.cell? ⟨p,4,none⟩=some (.int .u8 r.data.b)
 c5:w.cell? ⟨p,5,none⟩=some (.int .u8 r.data.c)
 c6:w.cell? ⟨p,6,none⟩=some (.int .u8 r.data.d)
 c7:w.cell? ⟨p,7,none⟩=some (.int .i64 r.state)
 c8:w.cell? ⟨p,8,none⟩=some (.int .i64 r.tries)
 c9:w.cell? ⟨p,9,none⟩=some (.int .i64 r.after)
 c10:w.cell? ⟨p,10,none⟩=some (.bool r.alone)
 c11:w.cell? ⟨p,11,none⟩=some (.bool r.inAir)
 c12:w.cell? ⟨p,12,none⟩=some (.bool r.told)
abbrev ReqB(w:World)(p:Nat)(r:Req):Prop:=w.heap[p]?=some (.cells (reqCells r) 96 (0,0))
theorem ReqB.at{w:World}{p:Nat}{r:Req}(h:ReqB w p r):ReqAt w p r:=by
 constructor <;> exact cell_of h rfl
theorem blocks_any(a b:Nat)(o r:Req)(w:World)(ha:ReqB w a o)(hb:ReqB w b r):
  Calls Tryx.prog 69 #[.pointer (some ⟨a,0,none⟩),.pointer (some ⟨b,0,none⟩)] w fun e w'=>e=.returned (.bool (o.blocks r))/\∃ n,w'=w.drewN n:=by
 obtain⟨a0,a1,a2,_,_,_,_,a7,_,_,_,a11,_⟩:=ha.at
 obtain⟨b0,b1,b2,_,_,_,_,_,_,_,_,_,_⟩:=hb.at
 clear ha hb
 obtain⟨num,write,page,data,state,tries,after,alone,inAir,told⟩:=o
 obtain⟨num',write',page',data',state',tries',after',alone',inAir',told'⟩:=r
 simp only at *
 by_cases h1:num<num'
 ·have d1:decide (num<num')=true:=by simpa using h1
  by_cases h2:page=page'
  ·have d2:(page == page')=true:=by simpa using h2
   by_cases h3:state=0
   ·have d3:(state == 0)=true:=by simpa using h3
    clear h3
    cases write <;> cases write' <;>
    (go_enter Tryx.func69,Tryz.ntmps69;go_wp2;go_quiet (fail);go_wp2;go_ret;exact⟨by simp[Req.blocks,d3,h1,h2],_,rfl⟩)
   ·have d3:(state == 0)=false:=by simpa using h3
    clear h3
    cases write <;> cases write' <;> cases inAir <;>
    (go_enter Tryx.func69,Tryz.ntmps69;go_wp2;go_quiet (fail);go_wp2;go_ret;exact⟨by simp[Req.blocks,d3,h1,h2],_,rfl⟩)
  ·have d2:(page == page')=false:=by simpa using h2
   (go_enter Tryx.func69,Tryz.ntmps69;go_wp2;go_quiet (fail);go_wp2;go_ret;exact⟨by simp[Req.blocks,d2,h1],_,rfl⟩)
 ·have d1:decide (num<num')=false:=by simpa using h1
  (go_enter Tryx.func69,Tryz.ntmps69;go_wp2;go_quiet (fail);go_wp2;go_ret;exact⟨by simp[Req.blocks,d1],_,rfl⟩)
theorem compare_any(a b:Nat)(o r:Req)(w:World)(ha:ReqB w a o)(hb:ReqB w b r)(h1:0<=o.page/\o.page<16)(h2:0<=r.page/\r.page<16)(h3:0<=o.num/\o.num<=2 ^ 60)(h4:0<=r.num/\r.num<=2 ^ 60):
  Calls Tryx.prog 104 #[.pointer (some ⟨a,0,none⟩),.pointer (some ⟨b,0,none⟩)] w fun e w'=>e=.returned (.int .i64 (o.cmp r))/\∃ n,w'=w.drewN n:=by
 obtain⟨a0,a1,a2,_,_,_,_,a7,_,_,_,a11,_⟩:=ha.at
 obtain⟨b0,b1,b2,_,_,_,_,_,_,_,_,_,_⟩:=hb.at
 clear ha hb
 obtain⟨num,write,page,data,state,tries,after,alone,inAir,told⟩:=o
 obtain⟨num',write',page',data',state',tries',after',alone',inAir',told'⟩:=r
 simp only at *
 have e1:=h3.1;have e2:=h4.1;have e3:=h3.2;have e4:=h4.2;have e5:=h1.1;have e6:=h1.2;have e7:=h2.1;have e8:=h2.2
 clear h1 h2 h3 h4
 by_cases h:page=page'
 ·have d2:(page != page')=false:=by simpa using h
  go_enter Tryx.func104,Tryz.ntmps104
  go_wp2
  go_quiet (fail)
  go_wp2
  go_quiet (fail)
  go_wp2
  go_ret
  exact⟨by simp[Req.cmp,h],_,World.drewN_drewN ..⟩
 ·have d2:(page != page')=true:=by simpa using h
  go_enter Tryx.func104,Tryz.ntmps104
  go_wp2
  go_quiet (fail)
  go_wp2
  go_quiet (fail)
  go_wp2
  go_ret
  exact⟨by simp[Req.cmp,h],_,World.drewN_drewN ..⟩
end
end Go.Proofs.YticobikhndlejaaGreatDoor
namespace Go.Proofs
section
open Go.Shelf
def Tryz.sortL_ren:Go.Shelf.Ren:=⟨fun | 6=>119 | 15=>123 | 14=>130 | 28=>140 | 29=>141 | 20=>143 | 21=>144 | 22=>145 | 23=>146 | 24=>147 | 25=>148 | 26=>149 | 27=>150 | 46=>157 | 47=>152 | 48=>153 | 49=>158 | 50=>159 | 57=>161 | n=>n,fun | 22=>90 | 24=>97 | 25=>188 | 3=>3 | 39=>220 | 0=>0 | 53=>239 | 55=>241 | 4=>4 | 46=>231 | 45=>230 | 50=>236 | 5=>5 | 9=>9 | 66=>247 | 70=>251 | 76=>255 | 77=>256 | n=>n,fun | n=>n⟩
theorem Tryz.sortL:Go.Proofs.SlLaysF.n6 Tryx.prog Tryz.sortL_ren:={
 mixed:=by kernel_rfl
 f6:=⟨Tryz.f119.name,by decide,Tryx.func119.trans (congrArg some (by kernel_rfl))⟩
 f14:=⟨Tryz.f130.name,by decide,Tryx.func130.trans (congrArg some (by kernel_rfl))⟩
 f15:=Tryx.func123.trans (congrArg some (by kernel_rfl))
 f20:=⟨Tryz.f143.name,by decide,Tryx.func143.trans (congrArg some (by kernel_rfl))⟩
 f21:=⟨Tryz.f144.name,by decide,Tryx.func144.trans (congrArg some (by kernel_rfl))⟩
 f22:=⟨Tryz.f145.name,by decide,Tryx.func145.trans (congrArg some (by kernel_rfl))⟩
 f23:=⟨Tryz.f146.name,by decide,Tryx.func146.trans (congrArg some (by kernel_rfl))⟩
 f24:=⟨Tryz.f147.name,by decide,Tryx.func147.trans (congrArg some (by kernel_rfl))⟩
 f25:=⟨Tryz.f148.name,by decide,Tryx.func148.trans (congrArg some (by kernel_rfl))⟩
 f26:=⟨Tryz.f149.name,by decide,Tryx.func149.trans (congrArg some (by kernel_rfl))⟩
 f27:=⟨Tryz.f150.name,by decide,Tryx.func150.trans (congrArg some (by kernel_rfl))⟩
 f28:=Tryx.func140.trans (congrArg some (by kernel_rfl))
 f29:=Tryx.func141.trans (congrArg some (by kernel_rfl))
 f46:=⟨Tryz.f157.name,by decide,Tryx.func157.trans (congrArg some (by kernel_rfl))⟩
 f47:=Tryx.func152.trans (congrArg some (by kernel_rfl))
 f48:=Tryx.func153.trans (congrArg some (by kernel_rfl))
 f49:=⟨Tryz.f158.name,by decide,Tryx.func158.trans (congrArg some (by kernel_rfl))⟩
 f50:=⟨Tryz.f159.name,by decide,Tryx.func159.trans (congrArg some (by kernel_rfl))⟩
 f57:=⟨Tryz.f161.name,by decide,Tryx.func161.trans (congrArg some (by kernel_rfl))⟩
 t0:=Tryx.underlying0
 a0:=Tryx.isAgg0
 z0:=Tryx.sizeOf0
 v0:=Tryx.zeroValue0
 t3:=Tryx.underlying3
 a3:=Tryx.isAgg3
 z3:=Tryx.sizeOf3
 v3:=Tryx.zeroValue3
 t4:=Tryx.underlying4
 a4:=Tryx.isAgg4
 z4:=Tryx.sizeOf4
 v4:=Tryx.zeroValue4
 t5:=Tryx.underlying5
 a5:=Tryx.isAgg5
 z5:=Tryx.sizeOf5
 v5:=Tryx.zeroValue5
 t9:=Tryx.underlying9
 a9:=Tryx.isAgg9
 z9:=Tryx.sizeOf9
 v9:=Tryx.zeroValue9
 t22:=Tryx.underlying90
 a22:=Tryx.isAgg90
 z22:=Tryx.sizeOf90
 v22:=Tryx.zeroValue90
 a24:=Tryx.isAgg97
 z24:=Tryx.sizeOf97
 t25:=Tryx.underlying188
 a25:=Tryx.isAgg188
 z25:=Tryx.sizeOf188
 v25:=Tryx.zeroValue188
 t39:=Tryx.underlying220
 a39:=Tryx.isAgg220
 z39:=Tryx.sizeOf220
 v39:=Tryx.zeroValue220
 t45:=Tryx.underlying230
 a45:=Tryx.isAgg230
 z45:=Tryx.sizeOf230
 v45:=Tryx.zeroValue230
 t46:=Tryx.underlying231
 a46:=Tryx.isAgg231
 z46:=Tryx.sizeOf231
 v46:=Tryx.zeroValue231
 t50:=Tryx.underlying236
 a50:=Tryx.isAgg236
 z50:=Tryx.sizeOf236
 v50:=Tryx.zeroValue236
 t53:=Tryx.underlying239
 a53:=Tryx.isAgg239
 z53:=Tryx.sizeOf239
 v53:=Tryx.zeroValue239
 t55:=Tryx.underlying241
 a55:=Tryx.isAgg241
 z55:=Tryx.sizeOf241
 v55:=Tryx.zeroValue241
 t66:=Tryx.underlying247
 a66:=Tryx.isAgg247
 z66:=Tryx.sizeOf247
 v66:=Tryx.zeroValue247
 t70:=Tryx.underlying251
 a70:=Tryx.isAgg251
 z70:=Tryx.sizeOf251
 v70:=Tryx.zeroValue251
 t76:=Tryx.underlying255
 a76:=Tryx.isAgg255
 z76:=Tryx.sizeOf255
 v76:=Tryx.zeroValue255
 t77:=Tryx.underlying256
 a77:=Tryx.isAgg256
 z77:=Tryx.sizeOf256
 v77:=Tryx.zeroValue256}
def Tryz.laysNm215_ren:Go.Shelf.Ren:=⟨fun | 15=>70 | n=>n,fun | 22=>24 | 3=>3 | 4=>4 | n=>n,fun | n=>n⟩
theorem Tryz.laysNm215:Go.Proofs.Lays2.n15 Tryx.prog Tryz.laysNm215_ren:={
 mixed:=by kernel_rfl
 f15:=Tryx.func70.trans (congrArg some (by kernel_rfl))
 t3:=Tryx.underlying3
 a3:=Tryx.isAgg3
 z3:=Tryx.sizeOf3
 v3:=Tryx.zeroValue3
 t4:=Tryx.underlying4
 a4:=Tryx.isAgg4
 z4:=Tryx.sizeOf4
 v4:=Tryx.zeroValue4
 t22:=Tryx.underlying24
 a22:=Tryx.isAgg24
 z22:=Tryx.sizeOf24
 v22:=Tryx.zeroValue24
 i3:=by kernel_rfl}
open Go.RowKit Go.Lib in
theorem Tryz.slices_Clone_int(b off n c:Nat)(zs:List Int)(w:World)(hz:n<=zs.length)(hbig:n*8<=140737488355328)(hc:∀ j,j<zs.length->w.cell? ⟨b,off+j,none⟩=some (.int .i64 (zs.getD j 0))):
  Calls Tryx.prog 70 #[.slice (some ⟨b,off,none⟩) n c] w fun e w'=>∃ v',e=.returned v'/\w'.ownsRow w.heap.size 3 1 v' n ((zs.take n).map (Value.int .i64))/\v'≠.slice none 0 0/\Below w.heap.size w w':=Any.slices_Clone_int Tryz.laysNm215 b off n c zs w hz hbig hc
open Go.RowKit Go.Lib in
theorem Tryz.slices_Clone_int_nil(n c:Nat)(w:World):
  Calls Tryx.prog 70 #[.slice none n c] w fun e w'=>e=.returned (.slice none 0 0)/\w'=w:=Any.slices_Clone_int_nil Tryz.laysNm215 n c w
end
end Go.Proofs
namespace Go.Proofs.YticobikhndlejaaGreatDoor
section
open Go.RowKit Go.Shelf Go.Lib Go.Sort
set_option maxRecDepth 100000
set_option maxHeartbeats 8000000
section
variable {α:Type} [Inhabited α] {enc:α->Value}
theorem holds_of_blockE{w:World}{g:Nat}{cur:Array Value}{e:TypeId}{ss:List α}(hb:w.heap[g]?=some (.cells cur e (0,0)))(ht:cur.toList.take ss.length=ss.map enc):Holds enc w g 0 ss.toArray:=by
 intro j hj
 have hj':j<ss.length:=by simpa using hj
 refine⟨?_,by simp[World.frozen?,hb]⟩
 have h1:(cur.toList.take ss.length)[j]?=(ss.map enc)[j]?:=by rw[ht]
 rw[List.getElem?_take_of_lt hj']at h1
 simp only[World.cell?,hb,Nat.zero_add]
 simp only[Option.isSome_none,Bool.false_eq_true,if_false]
 rw[<-Array.getElem?_toList,h1]
 simp[hj']
theorem heap_sortedE{w:World}{g n:Nat}{os:Array Obj}{cur:Array Value}{e:TypeId}{fr:Nat×Nat}(d:Array α)(hb:w.heap[g]?=some (.cells cur e fr)):
  (grow (putRow enc (Sort.ahead w n) g 0 d) os).heap[g]?=some (.cells (putCells enc 0 d cur) e fr):=by
 have hg:g<w.heap.size:=(Array.getElem?_eq_some_iff.1 hb).1
 rw[heap_grow_old _ _ (by simpa using hg)]
 simp[putRow,mapBlock,Sort.ahead,Array.getElem?_modify,hb,onCells]
theorem grownBy_sortedE{w:World}{g n:Nat}{os:Array Obj}(d:Array α):w.grownBy (grow (putRow enc (Sort.ahead w n) g 0 d) os) (some g):=by
 refine⟨rfl,rfl,rfl,by simp,fun k hk hne=>?_⟩
 rw[heap_grow_old _ _ (by simpa using hk)]
 have:g≠k:=fun e=>hne (by rw[e])
 simp[putRow,mapBlock,Sort.ahead,Array.getElem?_modify,this]
theorem take_putCellsE(cur:Array Value)(ts:List α)(h:ts.length<=cur.size):(putCells enc 0 ts.toArray cur).toList.take ts.length=ts.map enc:=by
 apply List.ext_getElem?
 intro j
 by_cases hj:j<ts.length
 ·rw[List.getElem?_take_of_lt hj,Array.getElem?_toList]
  simp[putCells,hj,show j<cur.size by omega]
 ·rw[List.getElem?_take_eq_none (by omega),List.getElem?_eq_none (by simp;omega)]
theorem ownsRow_sortedE{w:World}{base g cap n:Nat}{e:TypeId}{os:Array Obj}{cur:Array Value}{ss ts:List α}(hl:ts.length=ss.length)(hbase:base<=g)(hb:w.heap[g]?=some (.cells cur e (0,0)))
  (h1:ss.length<=cap) (h2:cap<=maxLen) (h3:cur.size=cap*1):
  (grow (putRow enc (Sort.ahead w n) g 0 ts.toArray) os).ownsRow base e 1 (.slice (some ⟨g,0,none⟩) ss.length cap) ss.length (ts.map enc):=
 ⟨by simp[hl],.inr ⟨g,cap,_,rfl,hbase,heap_sortedE _ hb,h1,h2,by simp[putCells,h3],by rw[Nat.mul_one,<-hl];exact take_putCellsE cur ts (by omega)⟩⟩
end
abbrev EntOf(es:List Ent):Type:={x:Ent // x∈es}
abbrev encE{es:List Ent}(x:EntOf es):Value:=ptr x.1.p
def cmpE{es:List Ent}(x y:EntOf es):Int:=x.1.r.cmp y.1.r
theorem cmp_lt{es:List Ent}(x y:EntOf es):ltOf cmpE x y=(decide (x.1.r.page<y.1.r.page) || (decide (x.1.r.page=y.1.r.page) && decide (x.1.r.num<y.1.r.num))):=by
 unfold ltOf cmpE Req.cmp
 by_cases h:x.1.r.page=y.1.r.page
 ·simp[h];omega
 ·simp[h];omega
theorem cmp_swo{es:List Ent}:SWO (ltOf (cmpE (es:=es))) where
 irrefl x:=by rw[cmp_lt];simp
 trans x y z h1 h2:=by rw[cmp_lt]at *;simp at *;omega
 ntrans x y z h1 h2:=by rw[cmp_lt]at *;simp at *;omega
theorem num_inj{es:List Ent}(h:(es.map (·.r.num)).Nodup){x y:Ent}(hx:x∈es)(hy:y∈es)(he:x.r.num=y.r.num):x=y:=by
 induction es with
 | nil=>cases hx
 | cons a es ih=>
   simp only[List.map_cons,List.nodup_cons]at h
   cases hx with
   | head=>
     cases hy with
     | head=>rfl
     | tail _ hy=>exact absurd (he ▸ List.mem_map_of_mem hy) h.1
   | tail _ hx=>
     cases hy with
     | head=>exact absurd (he ▸ List.mem_map_of_mem hx) h.1
     | tail _ hy=>exact ih h.2 hx hy
theorem cmp_total{es:List Ent}(h:EntsOk es)(x y:EntOf es)(h1:ltOf cmpE x y=false)(h2:ltOf cmpE y x=false):x=y:=by
 rw[cmp_lt]at *
 simp at h1 h2
 exact Subtype.ext (num_inj h.nodup x.2 y.2 (by omega))
theorem cmp_reads{es:List Ent}[Inhabited (EntOf es)](h:EntsOk es)(w:World)(hr:∀ e∈es,ReqB w e.p e.r)(blk size:Nat)(hblk:∀ e∈es,e.p≠blk):
  CmpReads Tryx.prog 104 #[] encE (cmpE (es:=es)) blk 0 size w:=by
 intro m os dk _ x y
 have hW:∀ e∈es,ReqB (sortWorld encE w blk 0 m dk os) e.p e.r:=fun e he=>
  ((grownBy_sortedE (enc:=encE) (w:=w) (g:=blk) (n:=m) (os:=os) dk).block e.p (lt_of_heap (hr e he)) (by simpa using hblk e he)).trans (hr e he)
 exact compare_any x.1.p y.1.p x.1.r y.1.r _ (hW _ x.2) (hW _ y.2) (h.page _ x.2) (h.page _ y.2) (h.num _ x.2) (h.num _ y.2)
theorem swoLe{es:List Ent}(h:EntsOk es)(L:List (EntOf es))(hn:L.Nodup):((L.mergeSort fun x y=>!(ltOf cmpE) y x).map (·.1)).Pairwise entLt:=by
 have h1:=List.pairwise_mergeSort (le:=fun x y:EntOf es=>!(ltOf cmpE) y x)
  (fun a b c hab hbc=>by simp only[cmp_lt]at *;simp at *;omega) (fun a b=>by simp only[cmp_lt];simp;omega) L
 have h2:(L.mergeSort fun x y=>!(ltOf cmpE) y x).Nodup:=(List.mergeSort_perm L _).symm.nodup hn
 refine List.pairwise_map.2 ((h1.and h2).imp fun {x y} hxy=>?_)
 obtain⟨h3,h4⟩:=hxy
 simp only[cmp_lt]at h3
 simp at h3
 have h5:x.1.r.num≠y.1.r.num:=fun he=>h4 (Subtype.ext (num_inj h.nodup x.2 y.2 he))
 unfold entLt;omega
theorem sortedFunc_any(Bm mb clock:Nat)(es:List Ent)(w:World)(hlen:es.length<=1000000)(hm:w.cell? ⟨Bm,0,none⟩=some (.map (some mb)))(hmap:w.heap[mb]?=some (mapObj es clock))(hb:∀ e∈es,e.born<clock)(hnd:(es.map Ent.born).Nodup)
  (hok:EntsOk es) (hr:∀ e∈es,ReqB w e.p e.r):
  Calls Tryx.prog 102 #[.func (.func 120) #[] #[ptr Bm],.func (.func 104) #[] #[]] w fun e w'=>
   ∃ v:Value,e=.returned v/\w'.ownsRow w.heap.size 97 1 v (byPage es).length ((byPage es).map fun e=>ptr e.p)/\Below w.heap.size w w':=by
 have HC:=Lib.hid (collect_any Bm mb clock es w hlen hm hmap hb hnd)
 have HR:=Lib.hid hr
 clear hm hmap hb hr
 go_enter Tryx.func102,Tryz.ntmps102
 go_wp2_with fail
 refine HC.out.mono ?_
 rintro e w1 ⟨v,vs,rfl,hp,hrow,hbel⟩
 rcases hrow.2 with ⟨rfl,hz⟩ |⟨g,cap,cur,rfl,hbase,hgb,r1,r2,r3,r4⟩
 ·have hvs:vs=[]:=List.eq_nil_of_length_eq_zero hz
  subst hvs
  have hes:es=[]:=hp.symm.eq_nil
  subst hes
  go_wp2_with fail
  refine (AnyF.slices_SortFunc_none (P:=Tryx.prog) (ρ:=Tryz.sortL_ren) {Tryz.sortL with} none 0 _ w1).mono ?_
  rintro e w2 ⟨rfl,rfl⟩
  go_wp2
  go_ret
  exact⟨_,rfl,World.ownsRow_nil _ _ _ _,hbel⟩
 ·by_cases hvs:vs=[]
  ·subst hvs
   have hes:es=[]:=hp.symm.eq_nil
   subst hes
   have hw1:w1.ownsRow w.heap.size 97 1 (.slice (some ⟨g,0,none⟩) 0 cap) 0 []:=hrow
   have HW:=Lib.hid hw1
   clear hrow hw1 r1 r2 r3 r4
   go_wp2_with fail
   refine (AnyF.slices_SortFunc_none (P:=Tryx.prog) (ρ:=Tryz.sortL_ren) {Tryz.sortL with} (some ⟨g,0,none⟩) cap _ w1).mono ?_
   rintro e w2 ⟨rfl,rfl⟩
   go_wp2
   go_ret
   exact⟨_,rfl,HW.out,hbel⟩
  ·obtain⟨v0,hv0v⟩:=List.exists_mem_of_ne_nil vs hvs
   have hv0:v0∈es:=hp.subset hv0v
   letI:Inhabited (EntOf es):=⟨⟨v0,hv0⟩⟩
   obtain⟨D,hD⟩:∃ D:List (EntOf es),D.map (·.1)=vs:=
    ⟨vs.attach.map fun x=>⟨x.1,hp.subset x.2⟩,by rw[List.map_map];exact List.attach_map_subtype_val _⟩
   have hlD:D.length=vs.length:=by rw[<-hD];simp
   have hDn:D.Nodup:=by
    have h1:vs.Nodup:=hp.symm.nodup (nodup_of_born hnd)
    rw[<-hD]at h1
    exact (List.pairwise_map.1 h1).imp fun hne heq=>hne (by rw[heq])
   have hDm:vs.map (fun e=>ptr e.p)=D.map encE:=by rw[<-hD,List.map_map];rfl
   rw[hDm,<-hlD,Nat.mul_one]at r4
   rw[<-hlD]at r1
   have hH:Holds (encE (es:=es)) w1 g 0 D.toArray:=holds_of_blockE hgb r4
   have hsz:D.length<4611686018427387904:=by rw[hlD,hp.length_eq];omega
   have hgl:g<w1.heap.size:=lt_of_heap hgb
   have hr1:∀ e∈es,ReqB w1 e.p e.r:=fun e he=>(hbel.block e.p (lt_of_heap (HR.out e he))).trans (HR.out e he)
   have hgne:∀ e∈es,e.p≠g:=fun e he h=>by
    have h1:=hr1 e he
    rw[h]at h1
    unfold ReqB at h1
    rw[hgb]at h1
    cases h1
   have hc:=Any.slices_SortFunc_total (P:=Tryx.prog) (ρ:=Tryz.sortL_ren) Tryz.sortL (encE (es:=es)) (fun _=>rfl) cmpE cmp_swo 104 #[] g 0 cap D.toArray w1
    (enters_of Tryx.func104 (by kernel_rfl) rfl) (cmp_reads hok w1 hr1 g D.toArray.size hgne).lays hH hgl (by simpa using hsz) (cmp_total hok)
   have hfin:(D.mergeSort fun x y=>!(ltOf cmpE) y x).map (·.1)=byPage es:=by
    refine sorted_unique ?_ (swoLe hok D hDn) (byPage_sorted hok)
    refine (((List.mergeSort_perm D _).map (·.1)).trans (List.Perm.of_eq hD)).trans (hp.trans (byPage_perm hok).symm)
   have hlen2:vs.length=D.length:=hlD.symm
   have HCs:=Lib.hid hc
   have HF:=Lib.hid hfin
   have HL:=Lib.hid hlen2
   have hne:(byPage es).length=D.length:=by rw[<-hfin];simp
   have HN:=Lib.hid hne
   clear hc hfin hrow hp hD hDm hlD hlen2 hne r4 hH hr1 hgne
   go_wp2_with fail
   rw[HL.out]
   have hsz2:D.toArray.size=D.length:=by simp
   rw[<-hsz2]
   refine HCs.out.mono ?_
   rintro e w2 ⟨rfl,n,os,hw2⟩
   have hrow2:w2.ownsRow w.heap.size 97 1 (.slice (some ⟨g,0,none⟩) D.length cap) D.length ((D.mergeSort fun x y=>!(ltOf cmpE) y x).map encE):=by
    rw[hw2];exact ownsRow_sortedE (by simp) hbase hgb r1 r2 r3
   have hb2:Below w.heap.size w w2:=by rw[hw2];exact hbel.grown (grownBy_sortedE _) hbel.size (fun k e=>by cases e;exact hbase)
   have HR2:=Lib.hid hrow2
   clear hrow2 hw2 hsz2
   go_wp2
   go_ret
   refine⟨_,rfl,?_,hb2⟩
   rw[HN.out,<-HF.out,List.map_map]
   exact HR2.out
structure TabB(w:World)(tb mb clock:Nat)(last held:Int)(es:List Ent):Prop where
 tab:w.heap[tb]?=some (.cells #[.map (some mb),.int .i64 last,.int .i64 held] 148 (0,0))
 map:w.heap[mb]?=some (mapObj es clock)
 reqs:∀ e∈es,ReqB w e.p e.r
 born:∀ e∈es,e.born<clock
 borns:(es.map Ent.born).Nodup
 ok:EntsOk es
 len:es.length<=1000000
theorem TabB.c0{w:World}{tb mb clock:Nat}{last held:Int}{es:List Ent}(h:TabB w tb mb clock last held es):w.cell? ⟨tb,0,none⟩=some (.map (some mb)):=cell_of h.tab rfl
theorem TabB.c1{w:World}{tb mb clock:Nat}{last held:Int}{es:List Ent}(h:TabB w tb mb clock last held es):w.cell? ⟨tb,1,none⟩=some (.int .i64 last):=cell_of h.tab rfl
theorem TabB.c2{w:World}{tb mb clock:Nat}{last held:Int}{es:List Ent}(h:TabB w tb mb clock last held es):w.cell? ⟨tb,2,none⟩=some (.int .i64 held):=cell_of h.tab rfl
theorem TabB.kept{w w':World}{tb mb clock:Nat}{last held:Int}{es:List Ent}(h:TabB w tb mb clock last held es){S:Nat->Prop}(hc:Chg S w w')(h1:¬S tb)(h2:¬S mb)(h3:∀ e∈es,¬S e.p):TabB w' tb mb clock last held es:=
 ⟨(hc.block _ (lt_of_heap h.tab) h1).trans h.tab,(hc.block _ (lt_of_heap h.map) h2).trans h.map,fun e he=>(hc.block _ (lt_of_heap (h.reqs e he)) (h3 e he)).trans (h.reqs e he),h.born,h.borns,h.ok,h.len⟩
theorem TabB.below{w w':World}{tb mb clock:Nat}{last held:Int}{es:List Ent}(h:TabB w tb mb clock last held es)(hb:Below w.heap.size w w'):TabB w' tb mb clock last held es:=
 h.kept (chgB hb (fun _=>False)) (fun x=>x) (fun x=>x) (fun _ _ x=>x)
theorem sorted_any(tb mb clock:Nat)(last held:Int)(es:List Ent)(w:World)(h:TabB w tb mb clock last held es):
  Calls Tryx.prog 68 #[ptr tb] w fun e w'=>
   ∃ v:Value,e=.returned v/\w'.ownsRow w.heap.size 97 1 v (byPage es).length ((byPage es).map fun e=>ptr e.p)/\Below w.heap.size w w':=by
 have c0:=h.c0
 have hb:Below w.heap.size w (w.alloc (.cells #[.map (some mb)] 146)):=(Below.refl _ w).alloc (Nat.le_refl _) _
 have h1:=h.below hb
 have HC:=Lib.hid (sortedFunc_any w.heap.size mb clock es _ h1.len (cell_new (w:=w) (c:=#[.map (some mb)]) (t:=146) rfl) h1.map h1.born h1.borns h1.ok h1.reqs)
 have hV:=(callsIn_wide (n:=6)).1 (values_in Fence.wide 6 trivial rfl (some mb) w)
 have HV:=Lib.hid hV
 clear h h1 hV
 go_enter Tryx.func68,Tryz.ntmps68
 go_wp2_with fail
 refine HV.out.mono ?_
 rintro e w1 ⟨rfl,rfl⟩
 go_wp2_with fail
 refine HC.out.mono ?_
 rintro e w1 ⟨v,rfl,hrow,hbel⟩
 have HR:=Lib.hid hrow
 clear hrow
 go_wp2
 go_ret
 exact⟨v,rfl,⟨HR.out.1,HR.out.2.imp id fun ⟨g,cap,cur,h1,h2,h3⟩=>⟨g,cap,cur,h1,by simp at h2;omega,h3⟩⟩,hb.trans (hbel.mono (by simp))⟩
end
section
open Go.RowKit Go.Shelf Go.Lib
set_option maxRecDepth 100000
set_option maxHeartbeats 8000000
theorem filter_take_no{l:List Ent}(p:Ent->Bool){j:Nat}(hj:j<l.length)(h:p (l[j]'hj)=false):(l.take (j+1)).filter p=(l.take j).filter p:=by
 rw[List.take_succ_eq_append_getElem hj,List.filter_append];simp[h]
theorem filter_take_yes{l:List Ent}(p:Ent->Bool){j:Nat}(hj:j<l.length)(h:p (l[j]'hj)=true):(l.take (j+1)).filter p=(l.take j).filter p ++ [l[j]'hj]:=by
 rw[List.take_succ_eq_append_getElem hj,List.filter_append];simp[h]
theorem ready_some(tb mb clock:Nat)(last held now:Int)(es:List Ent)(w:World)(h:TabB w tb mb clock last held es)(hes:byPage es≠[]):
  Calls Tryx.prog 38 #[ptr tb,.int .i64 now] w fun e w'=>
   ∃ v:Value,e=.returned v/\w'.ownsRow w.heap.size 97 1 v (readyE now es).length ((readyE now es).map fun e=>ptr e.p)/\Below w.heap.size w w':=by
 have HS:=Lib.hid (sorted_any tb mb clock last held es w h)
 obtain⟨i0,hi,hz0,hz1,hz2⟩:=info_parts Tryz.infoP
 have HT:=Lib.hid h
 clear h
 go_enter Tryx.func38,Tryz.ntmps38
 go_wp2_with fail
 go_step3
 go_wp2_with fail
 refine HS.out.mono ?_
 rintro e w1 ⟨v,rfl,hrow,hb⟩
 rcases hrow.2 with ⟨_,hz⟩ |⟨g,cap,cur,rfl,hbase,hgb,r1,r2,r3,r4⟩
 ·exact absurd (List.eq_nil_of_length_eq_zero hz) hes
 clear hrow
 have hT1:=HT.out.below hb
 have HT1:=Lib.hid hT1
 clear hT1
 go_wp2_with fail
 go_step3
 obtain⟨L,hL⟩:∃ L,L=byPage es:=⟨_,rfl⟩
 rw[<-hL]at r1 r4 ⊢
 have HL:=Lib.hid hL
 clear hL
 have hcell:∀ (wr:World) (j:Nat) (hj:j<L.length),Below w1.heap.size w1 wr->wr.cell? ⟨g,j,none⟩=some (ptr (L[j]'hj).p):=fun wr j hj hbw=>by
  rw[hbw.cell (p:=⟨g,j,none⟩) (lt_of_heap hgb)]
  simp only[World.cell?,hgb]
  have h1:(cur.toList.take (L.length*1))[j]?=(L.map fun e=>ptr e.p)[j]?:=by rw[r4]
  rw[Nat.mul_one,List.getElem?_take_of_lt hj,List.getElem?_map,List.getElem?_eq_getElem hj]at h1
  simpa using h1
 have HC:=Lib.hid hcell
 have hlen:L.length<=1000000:=by rw[HL.out,(byPage_perm HT.out.ok).length_eq];exact HT.out.len
 clear hcell r1 r2 r3 r4
 go_wp2_with fail
 go_loopg [6,15] L.length (fun k out i wr=>∃ j:Nat,k=L.length - j/\j<=L.length/\i=.int .i64 j/\wr.ownsRow w1.heap.size 97 1 out ((L.take j).filter (isReady now es)).length (((L.take j).filter (isReady now es)).map fun e=>ptr e.p)/\Below w1.heap.size w1 wr)
 case atStart=>exact ⟨0,by simp,Nat.zero_le _,rfl,World.ownsRow_nil _ _ _ _,Below.refl _ _⟩
 case round=>
  obtain⟨j,rfl,hj,rfl,hrow,hB⟩:=hrel
  by_cases hlt:j<L.length
  ·have hcell:=HC.out wr j hlt hB
   have hreq:=HT1.out.reqs
   obtain⟨e,he⟩:∃ e,L[j]=e:=⟨_,rfl⟩
   rw[he]at hcell
   have hmem:e∈es:=by rw[<-he];exact (byPage_perm HT.out.ok).subset (HL.out ▸ List.getElem_mem hlt)
   have hR:ReqB wr e.p e.r:=(hB.block e.p (lt_of_heap (HT1.out.reqs e hmem))).trans (HT1.out.reqs e hmem)
   have hat:=hR.at
   have c7:=hat.c7
   have c9:=hat.c9
   have HE:=Lib.hid he
   have HR:=Lib.hid hR
   clear hat hR he hreq
   by_cases hs:e.r.state=0
   ·have hs':(e.r.state != 0)=false:=by simpa using hs
    by_cases ha:now<e.r.after
    ·have hno:isReady now es e=false:=by have:¬e.r.after<=now:=by omega
                                         simp[isReady,this]
     have HN:=Lib.hid (filter_take_no (isReady now es) hlt (by rw[HE.out];exact hno))
     clear hs hno
     go_wp2
     go_roundg (L.length - (j+1))
     case measure=>omega
     case rel=>exact ⟨j+1,rfl,by omega,by go_num,by rw[HN.out];exact hrow,hB⟩
    ·have HS0:=Lib.hid hs
     clear hs
     go_wp2_with fail
     obtain⟨wo,hwo⟩:∃ wo:World,wo=wr:=⟨_,rfl⟩
     rw[<-hwo]at hrow hB HR c7 c9 hcell ⊢
     have HW:=Lib.hid hwo
     clear hwo
     go_loopg [34] L.length (fun k i w2=>∃ m q:Nat,k=L.length - m/\m<=L.length/\i=.int .i64 m/\(∀ o∈L.take m,o.r.blocks e.r=false)/\w2=wo.drewN q)
     case atStart=>exact ⟨0,0,by simp,Nat.zero_le _,rfl,by simp,rfl⟩
     case round=>
      obtain⟨m,q,rfl,hm,rfl,hno,rfl⟩:=hrel
      by_cases hmt:m<L.length
      ·have hBq:Below w1.heap.size w1 (wo.drewN q):=below_drewN hB q
       have hcm:=HC.out (wo.drewN q) m hmt hBq
       obtain⟨o,ho⟩:∃ o,L[m]=o:=⟨_,rfl⟩
       rw[ho]at hcm
       have hom:o∈es:=by rw[<-ho];exact (byPage_perm HT.out.ok).subset (HL.out ▸ List.getElem_mem hmt)
       have hRo:ReqB (wo.drewN q) o.p o.r:=(hBq.block o.p (lt_of_heap (HT1.out.reqs o hom))).trans (HT1.out.reqs o hom)
       have hbl:=blocks_any o.p e.p o.r e.r (wo.drewN q) hRo HR.out
       have HO:=Lib.hid ho
       have HNO:=Lib.hid hno
       clear ho hno hRo
       cases hb1:o.r.blocks e.r with
       | true=>
         rw[hb1]at hbl
         have HBL:=Lib.hid hbl
         have hanr:isReady now es e=false:=by
          have:(es.any fun o=>o.r.blocks e.r)=true:=List.any_eq_true.2 ⟨o,hom,hb1⟩
          simp[isReady,this]
         have HN:=Lib.hid (filter_take_no (isReady now es) hlt (by rw[HE.out];exact hanr))
         clear hbl hb1 hanr
         go_wp2_with (go_at_call 69;refine HBL.out.mono ?_;rintro e w' ⟨rfl,n,rfl⟩)
         go_roundg (L.length - (j+1))
         case measure=>omega
         case rel=>exact ⟨j+1,rfl,by omega,by go_num,by rw[HN.out];exact hrow,below_drewN hB _⟩
       | false=>
         rw[hb1]at hbl
         have HBL:=Lib.hid hbl
         have HB1:=Lib.hid hb1
         clear hbl hb1
         go_wp2_with (go_at_call 69;refine HBL.out.mono ?_;rintro e w' ⟨rfl,n,rfl⟩)
         go_roundg (L.length - (m+1))
         case measure=>omega
         case rel=>
          refine⟨m+1,q+n,rfl,by omega,by go_num,?_,rfl⟩
          intro x hx
          rw[List.take_succ_eq_append_getElem hmt,HO.out]at hx
          rcases List.mem_append.1 hx with hx | hx
          ·exact HNO.out x hx
          ·rw[List.mem_singleton.1 hx];exact HB1.out
      ·obtain rfl:m=L.length:=by omega
       rw[List.take_length]at hno
       have hyes:isReady now es e=true:=by
        have h1:(es.any fun o=>o.r.blocks e.r)=false:=by
         rw[List.any_eq_false]
         intro o ho
         have:=hno o (HL.out ▸ (byPage_perm HT.out.ok).symm.subset ho)
         simp[this]
        have h2:e.r.after<=now:=by omega
        have h3:=HS0.out
        simp[isReady,h1,h2,h3]
       have HN:=Lib.hid (filter_take_yes (isReady now es) hlt (by rw[HE.out];exact hyes))
       have hfl:((L.take j).filter (isReady now es)).length<=j:=Nat.le_trans (List.length_filter_le _ _) (List.length_take_le _ _)
       have hrowq:(wo.drewN q).ownsRow w1.heap.size 97 1 u6 ((L.take j).filter (isReady now es)).length (((L.take j).filter (isReady now es)).map fun e=>ptr e.p):=hrow
       have hBq:Below w1.heap.size w1 (wo.drewN q):=below_drewN hB q
       obtain⟨R,hR⟩:∃ R,(L.take j).filter (isReady now es)=R:=⟨_,rfl⟩
       rw[hR]at hrowq hfl
       have HRR:=Lib.hid hR
       have hsz:=hBq.size
       clear hno hyes hR hrow hm
       go_wp2_with (at_builtin;refine wpList_append_own _ rfl _ _ 90 rfl w1.heap.size 97 i0 (.pointer none) 1 8 Tryx.underlying90 hi hz0 hz1 hz2 rfl (by decide) _ _ _ rfl (hrowq.alloc _) ⟨(wo.drewN q).heap.size,0,none⟩ 1 1 [ptr e.p] rfl rfl (cell_one_new _ _ _) (by simp[Value.oneCell']) ?_ ?_ ?_ ?_)
       ·unfold maxLen;omega
       ·omega
       ·rw[World.size_alloc];omega
       intro v' w2 hown' hgrow _
       have hB2:Below w1.heap.size w1 w2:=(hBq.alloc hsz _).grown hgrow (by rw[World.size_alloc];omega) (fun k ek=>(hrowq.lt k ek).1)
       have hown2:w2.ownsRow w1.heap.size 97 1 v' ((L.take (j+1)).filter (isReady now es)).length (((L.take (j+1)).filter (isReady now es)).map fun e=>ptr e.p):=by
        rw[HN.out,HE.out,HRR.out];simpa using hown'
       have HO2:=Lib.hid hown2
       clear hown' hgrow hown2 hrowq
       go_wp2
       go_roundg (L.length - (j+1))
       case measure=>omega
       case rel=>exact ⟨j+1,rfl,by omega,by go_num,HO2.out,hB2⟩
   ·have hs':(e.r.state != 0)=true:=by simpa using hs
    have hno:isReady now es e=false:=by simp[isReady,hs]
    have HN:=Lib.hid (filter_take_no (isReady now es) hlt (by rw[HE.out];exact hno))
    clear hs hno
    go_wp2
    go_roundg (L.length - (j+1))
    case measure=>omega
    case rel=>exact ⟨j+1,rfl,by omega,by go_num,by rw[HN.out];exact hrow,hB⟩
  ·have hjl:j=L.length:=by omega
   have HR:=Lib.hid hrow
   have HJ:=Lib.hid hjl
   clear hrow hjl
   go_wp2
   rw[Exit.noGoto_ret]
   go_ret
   refine⟨_,rfl,?_,hb.trans (hB.mono hb.size)⟩
   have h1:=HR.out
   rw[HJ.out,List.take_length,HL.out]at h1
   exact⟨h1.1,h1.2.imp id fun ⟨g,cap,cur,h1,h2,h3⟩=>⟨g,cap,cur,h1,Nat.le_trans hb.size h2,h3⟩⟩
theorem ready_any(tb mb clock:Nat)(last held now:Int)(es:List Ent)(w:World)(h:TabB w tb mb clock last held es):
  Calls Tryx.prog 38 #[ptr tb,.int .i64 now] w fun e w'=>
   ∃ v:Value,e=.returned v/\w'.ownsRow w.heap.size 97 1 v (readyE now es).length ((readyE now es).map fun e=>ptr e.p)/\Below w.heap.size w w':=by
 by_cases hes:byPage es=[]
 ·have HS:=Lib.hid (sorted_any tb mb clock last held es w h)
  have hre:readyE now es=[]:=by simp[readyE,hes]
  rw[hre]
  have HE:=Lib.hid hes
  clear h hes hre
  go_enter Tryx.func38,Tryz.ntmps38
  go_wp2_with fail
  go_step3
  go_wp2_with fail
  refine HS.out.mono ?_
  rintro e w1 ⟨v,rfl,hrow,hb⟩
  rw[HE.out]at hrow
  rcases hrow.2 with ⟨rfl,hz⟩ |⟨g,cap,cur,rfl,hbase,hgb,r1,r2,r3,r4⟩
  ·clear hrow
   go_wp2_with fail
   go_step3
   go_wp2_with fail
   refine wp_loop_rounds 1 ?_
   rw[rounds_succ]
   go_wp2
   rw[Exit.noGoto_ret]
   go_ret
   exact⟨_,rfl,World.ownsRow_nil _ _ _ _,hb⟩
  ·clear hrow
   simp only[List.length_nil]at *
   go_wp2_with fail
   go_step3
   go_wp2_with fail
   refine wp_loop_rounds 1 ?_
   rw[rounds_succ]
   go_wp2
   rw[Exit.noGoto_ret]
   go_ret
   exact⟨_,rfl,World.ownsRow_nil _ _ _ _,hb⟩
 ·exact ready_some tb mb clock last held now es w h hes
end
end Go.Proofs.YticobikhndlejaaGreatDoor
