/- Part 7 of the proof (see the last part). -/
import Derived.Test.YticobikhndlejaaGreatDoorAlF
import Derived.Deep.AppendLies
import Derived.Deep.RegionHeld3
import Derived.Test.YticobikhndlejaaGreatDoorRows
import Derived.Stop.Asserts
namespace Go.Proofs.YticobikhndlejaaGreatDoor
section
open Go.RowKit Go.Shelf Go.Lib
set_option maxRecDepth 100000
set_option maxHeartbeats 8000000
theorem wrapAt_lt{head i:Nat}(h:head<=16)(hi:i<16):wrapAt head i<16:=by unfold wrapAt;split <;> omega
def beginI(o:Option Nat):Int:=match o with | some p=>(p:Int) | none=>-1
theorem beginE_some{ne:Nat->Bool}{head k:Nat}(hk:k<16)(h1:∀ j,j<k->ne (wrapAt head j)=false)(h2:ne (wrapAt head k)=true):beginE ne head=some (wrapAt head k):=by
 unfold beginE
 rw[List.find?_map,Option.map_eq_some_iff]
 refine⟨k,?_,rfl⟩
 rw[List.find?_eq_some_iff_append]
 refine⟨h2,List.range k,(List.range' (k+1) (16 - (k+1))),?_,fun a ha=>by simpa using h1 a (List.mem_range.1 ha)⟩
 rw[List.range_eq_range',List.range_eq_range',show (k :: List.range' (k+1) (16 - (k+1)))=List.range' k (16 - k)from by rw[show 16 - k=(16 - (k+1))+1 from by omega];rfl]
 rw[show List.range' k (16 - k)=List.range' (0+1*k) (16 - k)from by simp,List.range'_append]
 congr 1;omega
theorem beginE_none{ne:Nat->Bool}{head:Nat}(h1:∀ j,j<16->ne (wrapAt head j)=false):beginE ne head=none:=by
 unfold beginE
 rw[List.find?_eq_none]
 intro x hx
 obtain⟨j,hj,rfl⟩:=List.mem_map.1 hx
 simpa using h1 j (List.mem_range.1 hj)
theorem begin_any(pb head:Nat)(n:Nat->Nat)(w:World)(hh:head<=16)(hn:∀ k,n k<=1000000)(hc:∀ k,k<16->∃ a c,w.cell? ⟨pb,k,none⟩=some (.slice a (n k) c)):
  Calls Tryx.prog 66 #[ptr pb,.int .i64 head] w fun e w'=>e=.returned (.int .i64 (beginI (beginE (fun k=>decide (0<n k)) head)))/\w=w':=by
 have HC:=Lib.hid hc
 have HN:=Lib.hid hn
 clear hc hn
 go_enter Tryx.func66,Tryz.ntmps66
 go_wp2_with fail
 go_loop [7] (fun i=>∃ k:Nat,k<=16/\i=.int .i64 k/\Hid (∀ j,j<k->decide (0<n (wrapAt head j))=false)) (fun i=>(16 - intOf i).toNat)
 case atStart=>exact ⟨0,by omega,rfl,fun j hj=>absurd hj (by omega)⟩
 case round=>
  obtain⟨k,hk,rfl,HJ⟩:=hrel
  by_cases hlt:k<16
  ·have hwl:=wrapAt_lt hh hlt
   obtain⟨a,c,hcell⟩:=HC.out _ hwl
   have hnb:=HN.out (wrapAt head k)
   obtain⟨m,hm⟩:∃ m,n (wrapAt head k)=m:=⟨_,rfl⟩
   rw[hm]at hcell hnb
   by_cases hge:16<=head+k
   ·have hw:wrapAt head k=head+k - 16:=by unfold wrapAt;rw[if_pos hge]
    obtain⟨q,hq⟩:∃ q,head+k=q+16:=⟨head+k - 16,by omega⟩
    have hq2:wrapAt head k=q:=by omega
    rw[hq2]at hcell
    have hq3:(head:Int)+k - 16=q:=by omega
    by_cases h0:0<m
    ·have HB:=Lib.hid (beginE_some (ne:=fun k=>decide (0<n k)) hlt HJ.out (by simp[hm,h0]))
     have HW:=Lib.hid hq2
     have hq5:q<16:=by omega
     clear hw hm hq hq2
     go_wp2
     go_ret
     exact⟨by rw[HB.out,HW.out];rfl,rfl⟩
    ·have h0':m=0:=by omega
     subst h0'
     have HJ':Hid (∀ j,j<k+1->decide (0<n (wrapAt head j))=false):=fun j hj=>by
      by_cases hjk:j=k
      ·subst hjk;simp[hm]
      ·exact HJ.out j (by omega)
     have hq5:q<16:=by omega
     clear hw hm hq hq2
     go_wp2
     go_round
     case rel=>exact ⟨k+1,by omega,by go_num,HJ'⟩
     case measure=>simp [intOf];omega
   ·have hw:wrapAt head k=head+k:=by unfold wrapAt;rw[if_neg hge]
    rw[hw]at hcell
    by_cases h0:0<m
    ·have HB:=Lib.hid (beginE_some (ne:=fun k=>decide (0<n k)) hlt HJ.out (by simp[hm,h0]))
     have HW:=Lib.hid hw
     clear hw hm
     go_wp2
     go_ret
     exact⟨by rw[HB.out,HW.out];rfl,rfl⟩
    ·have h0':m=0:=by omega
     subst h0'
     have HJ':Hid (∀ j,j<k+1->decide (0<n (wrapAt head j))=false):=fun j hj=>by
      by_cases hjk:j=k
      ·subst hjk;simp[hm]
      ·exact HJ.out j (by omega)
     clear hw hm
     go_wp2
     go_round
     case rel=>exact ⟨k+1,by omega,by go_num,HJ'⟩
     case measure=>simp [intOf];omega
  ·have hk16:k=16:=by omega
   subst hk16
   have HB:=Lib.hid (beginE_none (ne:=fun k=>decide (0<n k)) HJ.out)
   go_wp2
   go_ret
   exact⟨by rw[HB.out];rfl,rfl⟩
theorem row_cell{w:World}{g:Nat}{cur:Array Value}{t:TypeId}{L:List Ent}(hgb:w.heap[g]?=some (.cells cur t (0,0)))(r4:cur.toList.take (L.length*1)=L.map fun e=>ptr e.p){B:Nat}{wr:World}(hb:Below B w wr)(hg:g<B)(j:Nat)(hj:j<L.length):
  wr.cell? ⟨g,j,none⟩=some (ptr (L[j]'hj).p):=by
 rw[hb.cell (p:=⟨g,j,none⟩) hg]
 simp only[World.cell?,hgb]
 have h1:(cur.toList.take (L.length*1))[j]?=(L.map fun e=>ptr e.p)[j]?:=by rw[r4]
 rw[Nat.mul_one,List.getElem?_take_of_lt hj,List.getElem?_map,List.getElem?_eq_getElem hj]at h1
 simpa using h1
theorem kind_any(pb page base:Nat)(write:Bool)(v:Value)(L:List Ent)(w:World)(hp:page<16)(hc:w.cell? ⟨pb,page,none⟩=some v)(hrow:w.ownsRow base 97 1 v L.length (L.map fun e=>ptr e.p))(hlen:L.length<=1000000)(hr:∀ e∈L,ReqB w e.p e.r):
  Calls Tryx.prog 67 #[ptr pb,.int .i64 page,.bool write] w fun e w'=>
   ∃ v':Value,e=.returned v'/\w'.ownsRow w.heap.size 97 1 v' (L.filter (isKind write)).length ((L.filter (isKind write)).map fun e=>ptr e.p)/\Below w.heap.size w w':=by
 obtain⟨i0,hi,hz0,hz1,hz2⟩:=info_parts Tryz.infoP
 have hp1:(0:Int)<=(page:Int):=by omega
 have hp2:(page:Int)<16:=by omega
 have HR:=Lib.hid hr
 clear hr
 rcases hrow.2 with ⟨rfl,hz⟩ |⟨g,cap,cur,rfl,hbase,hgb,r1,r2,r3,r4⟩
 ·have hL:L=[]:=List.eq_nil_of_length_eq_zero hz
  subst hL
  clear hrow
  go_enter Tryx.func67,Tryz.ntmps67
  go_wp2
  refine wp_loop_rounds 1 ?_
  rw[rounds_succ]
  go_wp2
  go_ret
  exact⟨_,rfl,World.ownsRow_nil _ _ _ _,Below.refl _ _⟩
 ·have HCe:=Lib.hid (fun wr (hb:Below w.heap.size w wr) j hj=>row_cell hgb r4 hb (lt_of_heap hgb) j hj)
  clear hrow r4 r1 r2 r3
  go_enter Tryx.func67,Tryz.ntmps67
  go_wp2_with fail
  go_loopg [7,16] L.length (fun k out i wr=>∃ j:Nat,k=L.length - j/\j<=L.length/\i=.int .i64 j/\wr.ownsRow w.heap.size 97 1 out ((L.take j).filter (isKind write)).length (((L.take j).filter (isKind write)).map fun e=>ptr e.p)/\Below w.heap.size w wr)
  case atStart=>exact ⟨0,by simp,Nat.zero_le _,rfl,World.ownsRow_nil _ _ _ _,Below.refl _ _⟩
  case round=>
   obtain⟨j,rfl,hj,rfl,hrow,hB⟩:=hrel
   by_cases hlt:j<L.length
   ·have hcell:=HCe.out wr hB j hlt
    obtain⟨e,he⟩:∃ e,L[j]=e:=⟨_,rfl⟩
    rw[he]at hcell
    have hmem:e∈L:=by rw[<-he];exact List.getElem_mem hlt
    have hR:ReqB wr e.p e.r:=(hB.block e.p (lt_of_heap (HR.out e hmem))).trans (HR.out e hmem)
    have c1:=hR.at.c1
    have c10:=hR.at.c10
    have HE:=Lib.hid he
    clear hR he
    cases hk:isKind write e with
    | false=>
      have HN:=Lib.hid (filter_take_no (isKind write) hlt (by rw[HE.out];exact hk))
      by_cases hw:e.r.write=write
      ·have hal:e.r.alone=true:=by simpa[isKind,hw]using hk
       rw[hal]at c10
       rw[hw]at c1
       have hww:(write == write)=true:=by simp
       clear hk hal hw
       go_wp2
       go_roundg (L.length - (j+1))
       case measure=>omega
       case rel=>exact ⟨j+1,rfl,by omega,by go_num,by rw[HN.out];exact hrow,hB⟩
      ·have hww:(e.r.write == write)=false:=by simpa using hw
       clear hk hw
       go_wp2
       go_roundg (L.length - (j+1))
       case measure=>omega
       case rel=>exact ⟨j+1,rfl,by omega,by go_num,by rw[HN.out];exact hrow,hB⟩
    | true=>
      have HN:=Lib.hid (filter_take_yes (isKind write) hlt (by rw[HE.out];exact hk))
      simp only[isKind,Bool.and_eq_true,beq_iff_eq,Bool.not_eq_true']at hk
      obtain⟨hw,hal⟩:=hk
      rw[hal]at c10
      rw[hw]at c1
      have hww:(write == write)=true:=by simp
      have hfl:((L.take j).filter (isKind write)).length<=j:=Nat.le_trans (List.length_filter_le _ _) (List.length_take_le _ _)
      obtain⟨R,hRR⟩:∃ R,(L.take j).filter (isKind write)=R:=⟨_,rfl⟩
      rw[hRR]at hrow hfl
      have HRR:=Lib.hid hRR
      have hsz:=hB.size
      clear hw hal hRR
      go_wp2_with (at_builtin;refine wpList_append_own _ rfl _ _ 90 rfl w.heap.size 97 i0 (.pointer none) 1 8 Tryx.underlying90 hi hz0 hz1 hz2 rfl (by decide) _ _ _ rfl (hrow.alloc _) ⟨wr.heap.size,0,none⟩ 1 1 [ptr e.p] rfl rfl (cell_one_new _ _ _) (by simp[Value.oneCell']) ?_ ?_ ?_ ?_)
      ·unfold maxLen;omega
      ·omega
      ·rw[World.size_alloc];omega
      intro v' w2 hown' hgrow _
      have hB2:Below w.heap.size w w2:=(hB.alloc hsz _).grown hgrow (by rw[World.size_alloc];omega) (fun k ek=>(hrow.lt k ek).1)
      have hown2:w2.ownsRow w.heap.size 97 1 v' ((L.take (j+1)).filter (isKind write)).length (((L.take (j+1)).filter (isKind write)).map fun e=>ptr e.p):=by
       rw[HN.out,HE.out,HRR.out];simpa using hown'
      have HO2:=Lib.hid hown2
      clear hown' hgrow hown2 hrow
      go_wp2
      go_roundg (L.length - (j+1))
      case measure=>omega
      case rel=>exact ⟨j+1,rfl,by omega,by go_num,HO2.out,hB2⟩
   ·have hjl:j=L.length:=by omega
    have HRw:=Lib.hid hrow
    have HJ:=Lib.hid hjl
    clear hrow hjl
    go_wp2
    go_ret
    refine⟨_,rfl,?_,hB⟩
    have h1:=HRw.out
    rw[HJ.out,List.take_length]at h1
    exact h1
end
section
def stands(o r:Req):Bool:=(o.page == r.page) && ((o.write || r.write) && ((o.state == 0) || o.inAir))
theorem sorted_take{rs:List Req}(h:rs.Pairwise (·.num < ·.num)){k:Nat}{r:Req}(hk:rs[k]?=some r):(∀ o∈rs.take k,o.num<r.num)/\∀ o∈rs.drop k,r.num<=o.num:=by
 obtain⟨hl,e⟩:=List.getElem?_eq_some_iff.1 hk
 have hd:rs.drop k=r :: rs.drop (k+1):=by rw[List.drop_eq_getElem_cons hl,e]
 rw[<-List.take_append_drop k rs,hd,List.pairwise_append,List.pairwise_cons]at h
 refine⟨fun o ho=>h.2.2 o ho r List.mem_cons_self,fun o ho=>?_⟩
 rw[hd]at ho
 rcases List.mem_cons.1 ho with rfl | ho
 ·omega
 ·have:=h.2.1.1 o ho;omega
theorem any_stands{rs:List Req}(h:rs.Pairwise (·.num < ·.num)){k:Nat}{r:Req}(hk:rs[k]?=some r):rs.any (fun o=>o.blocks r)=(rs.take k).any fun o=>stands o r:=by
 obtain⟨h1,h2⟩:=sorted_take h hk
 conv=>lhs;rw[<-List.take_append_drop k rs]
 rw[List.any_append]
 have e1:(rs.drop k).any (fun o=>o.blocks r)=false:=by
  rw[List.any_eq_false]
  intro o ho hb
  have:=h2 o ho
  simp[Req.blocks]at hb
  omega
 rw[e1,Bool.or_false,Bool.eq_iff_iff,List.any_eq_true,List.any_eq_true]
 constructor
 ·rintro⟨o,ho,hb⟩
  refine⟨o,ho,?_⟩
  simp only[Req.blocks,Bool.and_eq_true]at hb
  simp only[stands,Bool.and_eq_true]
  exact hb.2
 ·rintro⟨o,ho,hb⟩
  refine⟨o,ho,?_⟩
  simp only[stands,Bool.and_eq_true]at hb
  simp only[Req.blocks,Bool.and_eq_true]
  exact⟨by simpa using h1 o ho,hb⟩
theorem isReadyR_at{rs:List Req}(h:rs.Pairwise (·.num < ·.num)){k:Nat}{r:Req}(hk:rs[k]?=some r)(now:Int):isReadyR now rs r=((r.state == 0) && (decide (r.after<=now) && !((rs.take k).any fun o=>stands o r))):=by
 unfold isReadyR
 rw[any_stands h hk]
def readyP(now:Int)(rs:List Req)(p:Nat)(r:Req):Bool:=isReadyR now rs r && (r.page == (p:Int))
theorem byPageR_page(l:List Req)(p:Nat)(f:Req->Bool):∀ n:Nat,(((List.range n).flatMap fun m:Nat=>l.filter fun r=>r.page == (m:Int)).filter fun r=>f r && (r.page == (p:Int)))=if p<n then l.filter fun r=>f r && (r.page == (p:Int))else []
 | 0=>by simp
 | n+1=>by
   rw[List.range_succ,List.flatMap_append,List.filter_append,byPageR_page l p f n]
   simp only[List.flatMap_cons,List.flatMap_nil,List.append_nil,List.filter_filter]
   by_cases h1:p<n
   ·rw[if_pos h1,if_pos (by omega)]
    have:(l.filter fun a=>(f a && (a.page == (p:Int))) && (a.page == (n:Int)))=[]:=List.filter_eq_nil_iff.2 fun a _=>by simp;intro _ _;omega
    rw[this,List.append_nil]
   ·rw[if_neg h1,List.nil_append]
    by_cases h2:p=n
    ·subst h2
     rw[if_pos (by omega)]
     refine List.filter_congr fun a _=>?_
     cases f a <;> simp
    ·rw[if_neg (by omega)]
     exact List.filter_eq_nil_iff.2 fun a _=>by simp;intro _ _;omega
theorem pageR_ready(now:Int)(rs:List Req){p:Nat}(hp:p<16):pageR (readyR now rs) p=rs.filter (readyP now rs p):=by
 unfold pageR readyR byPageR
 rw[List.filter_filter]
 have:=byPageR_page rs p (isReadyR now rs) 16
 rw[if_pos hp]at this
 rw[<-show (fun r=>isReadyR now rs r && (r.page == (p:Int)))=readyP now rs p from rfl,<-this]
 refine List.filter_congr fun a _=>?_
 rw[Bool.and_comm]
def readyK(now:Int)(rs:List Req)(write:Bool)(p:Nat)(r:Req):Bool:=readyP now rs p r && isKindR write r
theorem kindR_ready(now:Int)(rs:List Req)(write:Bool){p:Nat}(hp:p<16):kindR (readyR now rs) write p=rs.filter (readyK now rs write p):=by
 unfold kindR
 rw[pageR_ready now rs hp,List.filter_filter]
 refine List.filter_congr fun a _=>?_
 rw[readyK,Bool.and_comm]
theorem filter_first{α:Type}{P:α->Bool}{l:List α}{i:Nat}{a:α}(h:(l.take i).filter P=[])(ha:l[i]?=some a)(hP:P a=true):∃ m,l.filter P=a :: m:=by
 obtain⟨hl,e⟩:=List.getElem?_eq_some_iff.1 ha
 refine⟨(l.drop (i+1)).filter P,?_⟩
 conv=>lhs;rw[<-List.take_append_drop i l,List.drop_eq_getElem_cons hl,e]
 rw[List.filter_append,h,List.nil_append,List.filter_cons_of_pos hP]
theorem take_filter_no{α:Type}{P:α->Bool}{l:List α}{i:Nat}{a:α}(ha:l[i]?=some a)(hP:P a=false):(l.take (i+1)).filter P=(l.take i).filter P:=by
 obtain⟨hl,e⟩:=List.getElem?_eq_some_iff.1 ha
 rw[List.take_succ_eq_append_getElem hl,List.filter_append,e]
 simp[hP]
theorem take_filter_yes{α:Type}{P:α->Bool}{l:List α}{i:Nat}{a:α}(ha:l[i]?=some a)(hP:P a=true):(l.take (i+1)).filter P=(l.take i).filter P ++ [a]:=by
 obtain⟨hl,e⟩:=List.getElem?_eq_some_iff.1 ha
 rw[List.take_succ_eq_append_getElem hl,List.filter_append,e]
 simp[hP]
theorem wrap_over{head i:Nat}(hi:16<=i)(h:wrapAt head i<16):wrapAt head (i - 16)=wrapAt head i:=by
 unfold wrapAt at h ⊢
 split at h
 ·rw[if_neg (by omega),if_pos (by omega)];omega
 ·omega
theorem begin_found{ne:Nat->Bool}{head i:Nat}(h:∀ j,j<i->ne (wrapAt head j)=false)(hw:wrapAt head i<16)(hn:ne (wrapAt head i)=true):beginE ne head=some (wrapAt head i):=by
 by_cases hi:i<16
 ·exact beginE_some hi h hn
 ·exfalso
  have h1:=h (i - 16) (by omega)
  rw[wrap_over (by omega) hw,hn]at h1
  cases h1
theorem begin_over{ne:Nat->Bool}{head i:Nat}(hh:head<=16)(h:∀ j,j<i->ne (wrapAt head j)=false)(hw:16<=wrapAt head i\/32<=i):beginE ne head=none:=by
 refine beginE_none fun j hj=>h j ?_
 unfold wrapAt at hw
 split at hw <;> omega
theorem cmd_full{t:St}(h:t.depth<=t.cs.length):t.cmd=none:=by unfold St.cmd;rw[if_pos h]
def neR(t:St)(k:Nat):Bool:=decide (0<(pageR (readyR t.now t.rs) k).length)
theorem cmd_idle{t:St}(h:beginE (neR t) t.head=none):t.cmd=none:=by
 have h':nextR (readyR t.now t.rs) t.head=(0,0,[]):=by
  unfold nextR
  rw[show (fun k=>decide (0<(pageR (readyR t.now t.rs) k).length))=neR t from rfl,h]
 unfold St.cmd
 rw[h']
 split <;> rfl
theorem cmd_alone{t:St}(hd:t.cs.length<t.depth){p:Nat}(h:beginE (neR t) t.head=some p){f:Req}{l:List Req}(hf:pageR (readyR t.now t.rs) p=f :: l)(ha:f.alone=true):t.cmd=some ⟨f.write,p,1,[f.num]⟩:=by
 have h':nextR (readyR t.now t.rs) t.head=(p,1,[f]):=by
  unfold nextR
  rw[show (fun k=>decide (0<(pageR (readyR t.now t.rs) k).length))=neR t from rfl,h]
  simp only[hf,ha,if_true]
 unfold St.cmd
 rw[h',if_neg (by omega)]
 rfl
theorem runLenR_of{K:Nat->List Req}{a most j:Nat}(h:∀ i,i<j->K (a+i)≠[])(hj:j<=most)(hs:j=most\/K (a+j)=[]):runLenR K a most=j:=by
 obtain⟨h1,h2,h3⟩:=runLenR_spec K a most
 rcases Nat.lt_trichotomy (runLenR K a most) j with hlt | he | hlt
 ·exact absurd (h3 (by omega)) (h _ hlt)
 ·exact he
 ·rcases hs with hs | hs
  ·omega
  ·exact absurd hs (h2 j hlt)
theorem cmd_group{t:St}(hd:t.cs.length<t.depth){p:Nat}(h:beginE (neR t) t.head=some p){f:Req}{l:List Req}(hf:pageR (readyR t.now t.rs) p=f :: l)(ha:f.alone=false){j:Nat}
  (h0:0<j) (h1:∀ i,i<j->kindR (readyR t.now t.rs) f.write (p+i)≠[]) (hj:j<=min 4 (16 - p)) (hs:j=min 4 (16 - p)\/kindR (readyR t.now t.rs) f.write (p+j)=[]):
  t.cmd=some ⟨f.write,p,j,(gatherR (kindR (readyR t.now t.rs) f.write) p j).map (·.num)⟩:=by
 have h':nextR (readyR t.now t.rs) t.head=(p,j,gatherR (kindR (readyR t.now t.rs) f.write) p j):=by
  unfold nextR
  rw[show (fun k=>decide (0<(pageR (readyR t.now t.rs) k).length))=neR t from rfl,h]
  simp only[hf,ha,Bool.false_eq_true,if_false]
  rw[runLenR_of h1 hj hs]
 unfold St.cmd
 rw[h',if_neg (by omega)]
 cases hg:gatherR (kindR (readyR t.now t.rs) f.write) p j with
 | nil=>
   exfalso
   have:=gather_len_ge (K:=kindR (readyR t.now t.rs) f.write) (p:=p) j h1
   rw[hg]at this
   simp at this
   omega
 | cons x m=>
   have hx:x∈gatherR (kindR (readyR t.now t.rs) f.write) p j:=by rw[hg];exact List.mem_cons_self
   obtain⟨i,_,hi⟩:=mem_gatherR.1 hx
   simp only[(mem_kindR.1 hi).2.2.1]
theorem map_set{rs:List Req}(h:rs.Pairwise (·.num < ·.num)){k:Nat}{r:Req}(hk:rs[k]?=some r)(f:Req->Req):(rs.map fun x=>if x.num=r.num then f x else x)=rs.set k (f r):=by
 obtain⟨hl,e⟩:=List.getElem?_eq_some_iff.1 hk
 apply List.ext_getElem?
 intro i
 rw[List.getElem?_map,List.getElem?_set]
 by_cases hi:k=i
 ·subst hi
  rw[if_pos rfl,if_pos hl,hk]
  simp
 ·rw[if_neg hi]
  cases hx:rs[i]? with
  | none=>rfl
  | some x=>
    have hne:x.num≠r.num:=fun en=>by
     obtain⟨hl2,e2⟩:=List.getElem?_eq_some_iff.1 hx
     rw[List.pairwise_iff_getElem]at h
     rcases Nat.lt_or_gt_of_ne hi with hlt | hlt
     ·have:=h k i hl hl2 hlt;rw[e,e2]at this;omega
     ·have:=h i k hl2 hl hlt;rw[e,e2]at this;omega
    simp[hne]
theorem filter_erase{rs:List Req}(h:rs.Pairwise (·.num < ·.num)){k:Nat}{r:Req}(hk:rs[k]?=some r)(P:Req->Bool)(hr:P r=false)(ho:∀ x∈rs,x.num≠r.num->P x=true):rs.filter P=rs.eraseIdx k:=by
 obtain⟨hl,e⟩:=List.getElem?_eq_some_iff.1 hk
 obtain⟨h1,h2⟩:=sorted_take h hk
 have hd:rs.drop k=r :: rs.drop (k+1):=by rw[List.drop_eq_getElem_cons hl,e]
 conv=>lhs;rw[<-List.take_append_drop k rs,hd]
 have hn:∀ o∈rs.drop (k+1),r.num<o.num:=fun o ho'=>by
  rw[<-List.take_append_drop k rs,hd,List.pairwise_append,List.pairwise_cons]at h
  exact h.2.1.1 o ho'
 rw[List.filter_append,List.filter_cons_of_neg (by simp[hr]),List.eraseIdx_eq_take_drop_succ]
 congr 1
 ·exact List.filter_eq_self.2 fun o ho'=>ho o (List.mem_of_mem_take ho') (by have:=h1 o ho';omega)
 ·exact List.filter_eq_self.2 fun o ho'=>ho o (List.mem_of_mem_drop ho') (by have:=hn o ho';omega)
theorem tell_air{rs:List Req}(h:rs.Pairwise (·.num < ·.num)){k:Nat}{r:Req}(hk:rs[k]?=some r)(ha:r.inAir=true)(hth:∀ x∈rs,x.told=true->x.inAir=true):St.tellRs rs r.num=rs.set k (tellR r):=by
 unfold St.tellRs
 rw[map_set h hk tellR]
 refine List.filter_eq_self.2 fun x hx=>?_
 rcases List.mem_or_eq_of_mem_set hx with hx | rfl
 ·have:=hth x hx
  cases ht:x.told <;> simp_all
 ·simp[tellR,ha]
theorem set_sorted{rs:List Req}(h:rs.Pairwise (·.num < ·.num)){k:Nat}{r y:Req}(hk:rs[k]?=some r)(hy:y.num=r.num):(rs.set k y).Pairwise (·.num < ·.num):=by
 obtain⟨hl,e⟩:=List.getElem?_eq_some_iff.1 hk
 rw[List.pairwise_iff_getElem]at h ⊢
 intro i j hi hj hij
 rw[List.length_set]at hi hj
 have:=h i j hi hj hij
 rw[List.getElem_set,List.getElem_set]
 split <;> split <;> rename_i h1 h2 <;> (try subst h1) <;> (try subst h2) <;> simp_all
theorem erase_set{rs:List Req}{k:Nat}{y:Req}:(rs.set k y).eraseIdx k=rs.eraseIdx k:=by
 rw[List.eraseIdx_eq_take_drop_succ,List.eraseIdx_eq_take_drop_succ,List.take_set,List.drop_set,if_pos (by omega),List.set_eq_of_length_le (by rw[List.length_take];omega)]
theorem tell_drop{rs:List Req}(h:rs.Pairwise (·.num < ·.num)){k:Nat}{r:Req}(hk:rs[k]?=some r)(ha:r.inAir=false):St.tellRs rs r.num=rs.eraseIdx k:=by
 unfold St.tellRs
 rw[map_set h hk tellR]
 have hl:=(List.getElem?_eq_some_iff.1 hk).1
 have hk2:(rs.set k (tellR r))[k]?=some (tellR r):=by rw[List.getElem?_set,if_pos rfl,if_pos hl]
 rw[filter_erase (set_sorted h hk (y:=tellR r) rfl) hk2 _ (by simp[tellR,ha]) fun x _ hx=>?_,erase_set]
 have:x.num≠r.num:=hx
 simp[this]
theorem land_at{t:St}(h:t.rs.Pairwise (·.num < ·.num)){k:Nat}{r:Req}(hk:t.rs[k]?=some r)(fault:Bool):
  (t.land fault r.num).rs=(if r.told then t.rs.eraseIdx k else t.rs.set k (St.landR t.now t.disk fault r))/\(t.land fault r.num).disk=St.landD t.disk fault r:=by
 have hf:=find_num h (List.mem_of_getElem? hk)
 obtain⟨a1,a2,a3,a4,a5⟩:=landR_num t.now t.disk fault r
 have hl:=(List.getElem?_eq_some_iff.1 hk).1
 have hk2:(t.rs.set k (St.landR t.now t.disk fault r))[k]?=some (St.landR t.now t.disk fault r):=by rw[List.getElem?_set,if_pos rfl,if_pos hl]
 have hs:=set_sorted h hk (y:=St.landR t.now t.disk fault r) a1
 unfold St.land
 rw[hf]
 refine⟨?_,rfl⟩
 simp only
 rw[map_set h hk (St.landR t.now t.disk fault)]
 cases ht:r.told with
 | true=>
   simp only[if_true]
   rw[<-erase_set (k:=k) (y:=St.landR t.now t.disk fault r)]
   refine filter_erase hs hk2 _ (by simp[a1,a4,a5,ht]) fun x _ hx=>?_
   have:x.num≠r.num:=by rw[a1]at hx;exact hx
   simp[this]
 | false=>
   simp only[Bool.false_eq_true,if_false]
   refine List.filter_eq_self.2 fun x hx=>?_
   by_cases hn:x.num=r.num
   ·have:x=St.landR t.now t.disk fault r:=rnum_inj hs hx (List.mem_of_getElem? hk2) (by rw[a1];exact hn)
    rw[this]
    simp[a5,ht]
   ·simp[hn]
structure ToldOk(told:List Int)(rs:List Req):Prop where
 nodup:told.Nodup
 mem:∀ n,n∈told↔∃ r∈rs,r.num=n/\r.told=true
theorem perm_len{l m:List Int}(hl:l.Nodup)(hm:m.Nodup)(h:∀ a,a∈l↔a∈m):l.length=m.length:=
 ((List.perm_ext_iff_of_nodup hl hm).2 h).length_eq
theorem ToldOk.len{told:List Int}{rs:List Req}(h:ToldOk told rs)(hs:rs.Pairwise (·.num < ·.num)):told.length=(rs.filter (·.told)).length:=by
 have:=perm_len h.nodup (m:=(rs.filter (·.told)).map (·.num)) (List.pairwise_map.2 ((hs.filter _).imp fun hlt e=>by omega)) fun a=>by
  rw[h.mem a,List.mem_map]
  constructor
  ·rintro⟨r,h1,h2,h3⟩;exact⟨r,List.mem_filter.2 ⟨h1,h3⟩,h2⟩
  ·rintro⟨r,h1,h2⟩;obtain⟨h3,h4⟩:=List.mem_filter.1 h1;exact⟨r,h3,h2,h4⟩
 rw[this,List.length_map]
theorem ToldOk.held{told:List Int}{rs:List Req}(h:ToldOk told rs)(hs:rs.Pairwise (·.num < ·.num)):(rs.length:Int) - told.length=((rs.filter fun r=>!r.told).length:Int):=by
 have h1:=h.len hs
 have h2:=(List.filter_append_perm (fun r:Req=>r.told) rs).length_eq
 rw[List.length_append]at h2
 omega
theorem ToldOk.at{told:List Int}{rs:List Req}(h:ToldOk told rs)(hs:rs.Pairwise (·.num < ·.num)){r:Req}(hr:r∈rs):r.num∈told↔r.told=true:=by
 rw[h.mem]
 constructor
 ·rintro⟨x,hx,e,ht⟩;rwa [<-rnum_inj hs hx hr e]
 ·exact fun ht=>⟨r,hr,rfl,ht⟩
def str4(d:B4):ByteArray:=strOfNums [d.a,d.b,d.c,d.d]
theorem str4_size(d:B4):(str4 d).size=4:=strOfNums_size _
structure RR where
 r:Req
 data:ByteArray
 answer:ByteArray
structure RR.Ok(x:RR):Prop where
 data:x.r.write=true->x.data=str4 x.r.data
 wans:x.r.write=true->x.answer=⟨#[]⟩
 rans:x.r.state=2->x.r.write=false->x.answer=str4 x.r.data
structure RRel(l:List RR)(told:List Int)(t:St):Prop where
 rs:l.map (·.r)=t.rs
 ok:∀ x∈l,x.Ok
 told:ToldOk told t.rs
theorem RRel.at{l:List RR}{told:List Int}{t:St}(h:RRel l told t){k:Nat}{x:RR}(hk:l[k]?=some x):t.rs[k]?=some x.r:=by
 rw[<-h.rs,List.getElem?_map,hk];rfl
theorem RRel.back{l:List RR}{told:List Int}{t:St}(h:RRel l told t){k:Nat}{r:Req}(hk:t.rs[k]?=some r):∃ x,l[k]?=some x/\x.r=r:=by
 rw[<-h.rs,List.getElem?_map]at hk
 exact Option.map_eq_some_iff.1 hk
theorem RRel.len{l:List RR}{told:List Int}{t:St}(h:RRel l told t):l.length=t.rs.length:=by rw[<-h.rs,List.length_map]
theorem rrel_new(d:Nat):RRel [] [] (St.new d):=⟨rfl,fun _ h=>(List.not_mem_nil h).elim,⟨List.nodup_nil,fun n=>by simp[St.new]⟩⟩
theorem rrel_add{l:List RR}{told:List Int}{t:St}(h:RRel l told t)(w:Bool)(p:Int)(d:B4)(data:ByteArray)(hd:w=true->data=str4 d):RRel (l ++ [⟨newReq (t.last+1) w p d,data,⟨#[]⟩⟩]) told (t.add w p d):=by
 refine⟨by simp[St.add,h.rs],fun x hx=>?_,⟨h.told.nodup,fun n=>?_⟩⟩
 ·rcases List.mem_append.1 hx with hx | hx
  ·exact h.ok x hx
  ·obtain rfl:=List.mem_singleton.1 hx
   exact⟨hd,fun _=>rfl,fun h=>by simp[newReq]at h⟩
 ·rw[h.told.mem]
  simp only[St.add,List.mem_append,List.mem_singleton]
  constructor
  ·rintro⟨r,h1,h2⟩;exact⟨r,.inl h1,h2⟩
  ·rintro⟨r,h1 | rfl,h2,h3⟩
   ·exact⟨r,h1,h2,h3⟩
   ·simp[newReq]at h3
theorem rset_map{l:List RR}{k:Nat}{y:RR}:(l.set k y).map (·.r)=(l.map (·.r)).set k y.r:=List.map_set
theorem rset_ok{l:List RR}(h:∀ x∈l,x.Ok){k:Nat}{y:RR}(hy:y.Ok):∀ x∈l.set k y,x.Ok:=fun x hx=>(List.mem_or_eq_of_mem_set hx).elim (h x) fun e=>e ▸ hy
theorem told_set{told:List Int}{rs:List Req}(h:ToldOk told rs)(hs:rs.Pairwise (·.num < ·.num)){k:Nat}{r y:Req}(hk:rs[k]?=some r)(hn:y.num=r.num)(ht:y.told=r.told):ToldOk told (rs.set k y):=by
 refine⟨h.nodup,fun n=>?_⟩
 rw[h.mem]
 have hl:=(List.getElem?_eq_some_iff.1 hk).1
 have hy:y∈rs.set k y:=List.mem_of_getElem? (by rw[List.getElem?_set,if_pos rfl,if_pos hl])
 constructor
 ·rintro⟨x,h1,h2,h3⟩
  by_cases hx:x.num=r.num
  ·have:=rnum_inj hs h1 (List.mem_of_getElem? hk) hx
   subst this
   exact⟨y,hy,by rw[hn,h2],by rw[ht,h3]⟩
  ·obtain⟨j,hj⟩:=List.mem_iff_getElem?.1 h1
   have hjk:k≠j:=fun e=>by subst e;rw[hj]at hk;exact hx (by rw[Option.some.inj hk])
   exact⟨x,List.mem_of_getElem? (i:=j) (by rw[List.getElem?_set,if_neg hjk];exact hj),h2,h3⟩
 ·rintro⟨x,h1,h2,h3⟩
  rcases List.mem_or_eq_of_mem_set h1 with h1 | rfl
  ·exact⟨x,h1,h2,h3⟩
  ·exact⟨r,List.mem_of_getElem? hk,by rw[<-hn,h2],by rw[<-ht,h3]⟩
theorem mem_erase_ne{rs:List Req}(hs:rs.Pairwise (·.num < ·.num)){k:Nat}{r:Req}(hk:rs[k]?=some r){x:Req}:x∈rs.eraseIdx k↔x∈rs/\x.num≠r.num:=by
 rw[<-filter_erase hs hk (fun x=>!(x.num == r.num)) (by simp) (fun x _ hx=>by simpa using hx),List.mem_filter]
 simp
theorem told_erase{told:List Int}{rs:List Req}(h:ToldOk told rs)(hs:rs.Pairwise (·.num < ·.num)){k:Nat}{r:Req}(hk:rs[k]?=some r)(ht:r.told=false):ToldOk told (rs.eraseIdx k):=by
 refine⟨h.nodup,fun n=>?_⟩
 rw[h.mem]
 constructor
 ·rintro⟨x,h1,h2,h3⟩
  refine⟨x,(mem_erase_ne hs hk).2 ⟨h1,fun e=>?_⟩,h2,h3⟩
  rw[rnum_inj hs h1 (List.mem_of_getElem? hk) e,ht]at h3
  cases h3
 ·rintro⟨x,h1,h2,h3⟩
  exact⟨x,((mem_erase_ne hs hk).1 h1).1,h2,h3⟩
theorem told_out{told:List Int}{rs:List Req}(h:ToldOk told rs)(hs:rs.Pairwise (·.num < ·.num)){k:Nat}{r:Req}(hk:rs[k]?=some r):ToldOk (told.filter fun m=>!(m == r.num)) (rs.eraseIdx k):=by
 refine⟨h.nodup.filter _,fun n=>?_⟩
 rw[List.mem_filter,h.mem]
 constructor
 ·rintro⟨⟨x,h1,h2,h3⟩,h4⟩
  exact⟨x,(mem_erase_ne hs hk).2 ⟨h1,by rw[h2];simpa using h4⟩,h2,h3⟩
 ·rintro⟨x,h1,h2,h3⟩
  obtain⟨h4,h5⟩:=(mem_erase_ne hs hk).1 h1
  exact⟨⟨x,h4,h2,h3⟩,by rw[h2]at h5;simpa using h5⟩
def tellX(x:RR):RR:=⟨tellR x.r,x.data,x.answer⟩
theorem rrel_tell_air{l:List RR}{told:List Int}{t:St}(h:RRel l told t)(hs:t.rs.Pairwise (·.num < ·.num))(hth:∀ x∈t.rs,x.told=true->x.inAir=true){k:Nat}{x:RR}(hk:l[k]?=some x)(ha:x.r.inAir=true)(ht:x.r.told=false):
  RRel (l.set k (tellX x)) (told ++ [x.r.num]) (t.tell x.r.num):=by
 have hk':=h.at hk
 have hl:=(List.getElem?_eq_some_iff.1 hk').1
 have hrs:(t.tell x.r.num).rs=t.rs.set k (tellR x.r):=tell_air hs hk' ha hth
 have hin:tellR x.r∈t.rs.set k (tellR x.r):=List.mem_of_getElem? (by rw[List.getElem?_set,if_pos rfl,if_pos hl])
 have hno:x.r.num ∉ told:=fun hm=>by
  rw[h.told.at hs (List.mem_of_getElem? hk'),ht]at hm
  cases hm
 refine⟨by rw[rset_map,h.rs,hrs];rfl,rset_ok h.ok ?_,?_⟩
 ·have:=h.ok x (List.mem_of_getElem? hk)
  exact⟨this.data,this.wans,this.rans⟩
 ·rw[hrs]
  refine⟨List.nodup_append.2 ⟨h.told.nodup,by simp,fun a ha b hb=>by rw[List.mem_singleton.1 hb];exact fun e=>hno (e ▸ ha)⟩,fun n=>?_⟩
  rw[List.mem_append,h.told.mem,List.mem_singleton]
  constructor
  ·rintro (⟨y,h1,h2,h3⟩ | rfl)
   ·obtain⟨j,hj⟩:=List.mem_iff_getElem?.1 h1
    by_cases hjk:k=j
    ·subst hjk
     rw[hk']at hj
     rw[<-Option.some.inj hj,ht]at h3
     cases h3
    ·exact⟨y,List.mem_of_getElem? (i:=j) (by rw[List.getElem?_set,if_neg hjk];exact hj),h2,h3⟩
   ·exact⟨tellR x.r,hin,rfl,rfl⟩
  ·rintro⟨y,h1,h2,h3⟩
   rcases List.mem_or_eq_of_mem_set h1 with h1 | rfl
   ·exact .inl ⟨y,h1,h2,h3⟩
   ·exact .inr h2.symm
theorem erase_map{l:List RR}{k:Nat}:(l.eraseIdx k).map (·.r)=(l.map (·.r)).eraseIdx k:=by
 simp[List.eraseIdx_eq_take_drop_succ,List.map_take,List.map_drop]
theorem rrel_tell_drop{l:List RR}{told:List Int}{t:St}(h:RRel l told t)(hs:t.rs.Pairwise (·.num < ·.num)){k:Nat}{x:RR}(hk:l[k]?=some x)(ha:x.r.inAir=false)(ht:x.r.told=false):RRel (l.eraseIdx k) told (t.tell x.r.num):=by
 have hk':=h.at hk
 have hrs:(t.tell x.r.num).rs=t.rs.eraseIdx k:=tell_drop hs hk' ha
 exact⟨by rw[erase_map,h.rs,hrs],fun y hy=>h.ok y (List.mem_of_mem_eraseIdx hy),by rw[hrs];exact told_erase h.told hs hk' ht⟩
def giveX(x:RR):RR:=⟨St.giveR x.r,x.data,x.answer⟩
theorem rrel_give{l:List RR}{told:List Int}{t:St}(h:RRel l told t)(hs:t.rs.Pairwise (·.num < ·.num)){k:Nat}{x:RR}(hk:l[k]?=some x):RRel (l.set k (giveX x)) told (t.give x.r.num):=by
 have hk':=h.at hk
 have hrs:(t.give x.r.num).rs=t.rs.set k (St.giveR x.r):=map_set hs hk' St.giveR
 have:=h.ok x (List.mem_of_getElem? hk)
 exact⟨by rw[rset_map,h.rs,hrs];rfl,rset_ok h.ok ⟨this.data,this.wans,fun h=>by simp[giveX,St.giveR]at h⟩,by rw[hrs];exact told_set h.told hs hk' rfl rfl⟩
def sentX(x:RR):RR:=⟨sentR x.r,x.data,x.answer⟩
def sentL(l:List RR)(ns:List Int):List RR:=l.map fun x=>if x.r.num∈ns then sentX x else x
theorem sentL_nil(l:List RR):sentL l []=l:=by simp[sentL]
theorem sentL_len(l:List RR)(ns:List Int):(sentL l ns).length=l.length:=List.length_map _
theorem sentL_at{l:List RR}{ns:List Int}{k:Nat}{x:RR}(hk:l[k]?=some x):(sentL l ns)[k]?=some (if x.r.num∈ns then sentX x else x):=by
 unfold sentL
 rw[List.getElem?_map,hk];rfl
theorem sentL_step{l:List RR}(hs:(l.map (·.r)).Pairwise (·.num < ·.num)){ns:List Int}{k:Nat}{x:RR}(hk:l[k]?=some x):(sentL l ns).set k (sentX x)=sentL l (ns ++ [x.r.num]):=by
 obtain⟨hl,e⟩:=List.getElem?_eq_some_iff.1 hk
 apply List.ext_getElem?
 intro j
 rw[List.getElem?_set]
 by_cases hjk:k=j
 ·subst hjk
  rw[if_pos rfl,sentL_len,if_pos hl,sentL_at hk,if_pos (by simp)]
 ·rw[if_neg hjk]
  cases hj:l[j]? with
  | none=>simp [sentL,List.getElem?_map,hj]
  | some y=>
    have hne:y.r.num≠x.r.num:=fun en=>by
     obtain⟨hl2,e2⟩:=List.getElem?_eq_some_iff.1 hj
     rw[List.pairwise_map,List.pairwise_iff_getElem]at hs
     rcases Nat.lt_or_gt_of_ne hjk with hlt | hlt
     ·have:=hs k j hl hl2 hlt;rw[e,e2]at this;omega
     ·have:=hs j k hl2 hl hlt;rw[e,e2]at this;omega
    rw[sentL_at hj,sentL_at hj]
    congr 1
    simp[hne]
theorem rrel_sent{l:List RR}{told:List Int}{t:St}(h:RRel l told t)(c:Cmd):RRel (sentL l c.nums) told (t.sent c):=by
 have hrs:(sentL l c.nums).map (·.r)=(t.sent c).rs:=by
  unfold sentL St.sent
  simp only[List.map_map,<-h.rs]
  refine List.map_congr_left fun x _=>?_
  simp only[Function.comp]
  split <;> rfl
 refine⟨hrs,fun x hx=>?_,⟨h.told.nodup,fun n=>?_⟩⟩
 ·obtain⟨y,hy,rfl⟩:=List.mem_map.1 hx
  have:=h.ok y hy
  split
  ·exact⟨this.data,this.wans,fun h=>by simp[sentX,sentR]at h⟩
  ·exact this
 ·rw[h.told.mem]
  unfold St.sent
  constructor
  ·rintro⟨r,h1,h2,h3⟩
   refine⟨if r.num∈c.nums then sentR r else r,List.mem_map_of_mem h1,?_,?_⟩ <;> split <;> assumption
  ·rintro⟨r,h1,h2,h3⟩
   obtain⟨y,hy,rfl⟩:=List.mem_map.1 h1
   refine⟨y,hy,?_,?_⟩
   ·revert h2;split <;> exact id
   ·revert h3;split <;> exact id
def landX(now:Int)(disk:List Int)(fault:Bool)(x:RR):RR:=⟨St.landR now disk fault x.r,x.data,if !fault && !x.r.write then str4 (dget disk x.r.page)else x.answer⟩
theorem landX_ok{x:RR}(h:x.Ok)(ha:x.r.state=1\/x.r.state=4)(now:Int)(disk:List Int)(fault:Bool):(landX now disk fault x).Ok:=by
 obtain⟨_,_,h3,_,_⟩:=landR_num now disk fault x.r
 have hd:(St.landR now disk fault x.r).data=if !fault && !x.r.write then dget disk x.r.page else x.r.data:=by
  unfold St.landR;simp only;repeat' split
  all_goals simp_all
 refine⟨fun hw=>?_,fun hw=>?_,fun h2 hw=>?_⟩
 ·have hw':x.r.write=true:=h3.symm.trans hw
  show x.data=str4 (St.landR now disk fault x.r).data
  rw[hd,hw',h.data hw'];simp
 ·have hw':x.r.write=true:=h3.symm.trans hw
  show (if !fault && !x.r.write then _ else _)=_
  rw[hw',h.wans hw'];simp
 ·have hw':x.r.write=false:=h3.symm.trans hw
  show (if !fault && !x.r.write then str4 (dget disk x.r.page)else x.answer)=str4 (St.landR now disk fault x.r).data
  rw[hd]
  cases hf:fault with
  | false=>simp [hw']
  | true=>
    exfalso
    have h2':(St.landR now disk fault x.r).state=2:=h2
    unfold St.landR at h2'
    subst hf
    simp only[Bool.not_true,Bool.false_eq_true,if_false,Bool.false_and]at h2'
    rcases ha with ha | ha
    ·rw[if_pos ha]at h2'
     split at h2' <;> simp at h2'
    ·rw[if_neg (by omega)]at h2'
     simp only at h2'
     omega
theorem rrel_land{l:List RR}{told:List Int}{t:St}(h:RRel l told t)(hs:t.rs.Pairwise (·.num < ·.num)){k:Nat}{x:RR}(hk:l[k]?=some x)(ha:x.r.state=1\/x.r.state=4)(fault:Bool)(ht:x.r.told=false):
  RRel (l.set k (landX t.now t.disk fault x)) told (t.land fault x.r.num):=by
 have hk':=h.at hk
 obtain⟨h1,_⟩:=land_at hs hk' fault
 rw[ht]at h1
 simp only[Bool.false_eq_true,if_false]at h1
 obtain⟨a1,_,_,_,a5⟩:=landR_num t.now t.disk fault x.r
 exact⟨by rw[rset_map,h.rs,h1];rfl,rset_ok h.ok (landX_ok (h.ok x (List.mem_of_getElem? hk)) ha _ _ _),by rw[h1];exact told_set h.told hs hk' a1 a5⟩
theorem rrel_land_told{l:List RR}{told:List Int}{t:St}(h:RRel l told t)(hs:t.rs.Pairwise (·.num < ·.num)){k:Nat}{x:RR}(hk:l[k]?=some x)(fault:Bool)(ht:x.r.told=true):
  RRel (l.eraseIdx k) (told.filter fun m=>!(m == x.r.num)) (t.land fault x.r.num):=by
 have hk':=h.at hk
 obtain⟨h1,_⟩:=land_at hs hk' fault
 rw[ht]at h1
 simp only[if_true]at h1
 exact⟨by rw[erase_map,h.rs,h1],fun y hy=>h.ok y (List.mem_of_mem_eraseIdx hy),by rw[h1];exact told_out h.told hs hk'⟩
theorem rrel_crash{t:St}(f:Nat->Bool):RRel [] [] (t.crash f):=⟨rfl,fun _ h=>(List.not_mem_nil h).elim,⟨List.nodup_nil,fun n=>by simp[St.crash]⟩⟩
theorem rrel_same{l:List RR}{told:List Int}{t t':St}(h:RRel l told t)(e:t'.rs=t.rs):RRel l told t':=⟨by rw[e];exact h.rs,h.ok,by rw[e];exact h.told⟩
def rrCells(x:RR):List Value:=[.int .i64 x.r.num,.bool x.r.write,.int .i64 x.r.page,.string x.data,.int .i64 x.r.state,.int .i64 x.r.tries,.int .i64 x.r.after,.bool x.r.alone,.bool x.r.inAir,.string x.answer]
theorem rr_at:∀ {l:List RR} {j:Nat} {x:RR},l[j]?=some x->∀ i v,(rrCells x)[i]?=some v->(l.flatMap rrCells)[j*10+i]?=some v
 | [],_,_,h=>by simp at h
 | y :: l,0,x,h=>by
   intro i v hv
   simp at h
   subst h
   have hi:i<10:=(List.getElem?_eq_some_iff.1 hv).1
   rw[List.flatMap_cons,List.getElem?_append_left (by simp[rrCells];omega)]
   simpa using hv
 | y :: l,j+1,x,h=>by
   intro i v hv
   rw[List.flatMap_cons,List.getElem?_append_right (by simp[rrCells];omega)]
   have:=rr_at (by simpa using h) i v hv
   rw[show (j+1)*10+i - (rrCells y).length=j*10+i from by simp[rrCells];omega]
   exact this
theorem rr_same:∀ (l:List RR) (k:Nat) {x y:RR},l[k]?=some x->rrCells y=rrCells x->(l.set k y).flatMap rrCells=l.flatMap rrCells
 | [],_,_,_,h,_=>by simp at h
 | z :: l,0,x,y,h,e=>by
   simp at h
   subst h
   simp[e]
 | z :: l,k+1,x,y,h,e=>by
   have:=rr_same l k (by simpa using h) e
   simp[this]
theorem rr_tell{l:List RR}{k:Nat}{x:RR}(hk:l[k]?=some x):(l.set k (tellX x)).flatMap rrCells=l.flatMap rrCells:=rr_same l k hk rfl
theorem rr_set1(i:Nat)(v:Value)(hi:i<10):∀ (l:List RR) (k:Nat) {x y:RR},l[k]?=some x->rrCells y=(rrCells x).set i v->(l.set k y).flatMap rrCells=(l.flatMap rrCells).set (k*10+i) v
 | [],_,_,_,h,_=>by simp at h
 | z :: l,0,x,y,h,e=>by
   simp at h
   subst h
   simp only[List.set_cons_zero,List.flatMap_cons,e]
   rw[List.set_append,if_pos (by simp[rrCells];omega)]
   simp
 | z :: l,k+1,x,y,h,e=>by
   have ih:=rr_set1 i v hi l k (by simpa using h) e
   simp only[List.set_cons_succ,List.flatMap_cons,ih]
   have hl:(rrCells z).length=10:=rfl
   rw[List.set_append,if_neg (by omega)]
   congr 2
   omega
end
section
open Go.RowKit Go.Shelf Go.Lib
set_option maxRecDepth 100000
set_option maxHeartbeats 8000000
structure PagesB(w:World)(pb base:Nat)(vs:List Value)(l:Nat->List Ent):Prop where
 len:vs.length=16
 arr:w.heap[pb]?=some (.cells vs.toArray 134 (0,0))
 low:pb<base
 rows:∀ k (h:k<vs.length),w.ownsRow base 97 1 (vs[k]'h) (l k).length ((l k).map fun e=>ptr e.p)
 apart:∀ j k (hj:j<vs.length) (hk:k<vs.length),j≠k->(vs[j]'hj).ownBlock=none\/(vs[j]'hj).ownBlock≠(vs[k]'hk).ownBlock
theorem PagesB.cell{w:World}{pb base:Nat}{vs:List Value}{l:Nat->List Ent}(h:PagesB w pb base vs l)(k:Nat)(hk:k<16):w.cell? ⟨pb,k,none⟩=some (vs[k]'(h.len ▸ hk)):=
 cell_of h.arr (by simp[h.len,hk])
theorem PagesB.kept{w w':World}{pb base:Nat}{vs:List Value}{l:Nat->List Ent}(h:PagesB w pb base vs l)(hb:Below w.heap.size w w'):PagesB w' pb base vs l:=
 ⟨h.len,(hb.block _ (lt_of_heap h.arr)).trans h.arr,h.low,fun k hk=>(h.rows k hk).kept (row:=none) ⟨hb.os,hb.tape,hb.output,hb.size,fun i hi _=>hb.block i hi⟩ (by
   rcases hv:(vs[k]'hk).ownBlock with _ | g
   ·exact .inl rfl
   ·exact .inr (by simp)),h.apart⟩
theorem PagesB.push{w W w1:World}{pb base:Nat}{vs:List Value}{l:Nat->List Ent}(h:PagesB w pb base vs l)(hW:Below w.heap.size w W)(pg:Nat)(hpg:pg<vs.length)(e:Ent)(g cap:Nat)
  (hown:w1.ownsRow base 97 1 (.slice (some ⟨g,0,none⟩) ((l pg).length+1) cap) ((l pg).length+1) ((l pg).map (fun e=>ptr e.p) ++ [ptr e.p]))
  (hgrow:W.grownBy w1 (vs[pg]'hpg).ownBlock) (hat:(vs[pg]'hpg).ownBlock=some g\/w.heap.size<=g):
  PagesB (w1.setCell ⟨pb,pg,none⟩ (.slice (some ⟨g,0,none⟩) ((l pg).length+1) cap)) pb base (vs.set pg (.slice (some ⟨g,0,none⟩) ((l pg).length+1) cap)) (fun k=>if k=pg then l pg ++ [e]else l k):=by
 have hpb:=lt_of_heap h.arr
 have hpbne:some pb≠(vs[pg]'hpg).ownBlock:=fun he=>by have:=((h.rows pg hpg).lt pb he.symm).1;have:=h.low;omega
 have harr1:w1.heap[pb]?=some (.cells vs.toArray 134 (0,0)):=(hgrow.block pb (Nat.lt_of_lt_of_le hpb hW.size) hpbne).trans ((hW.block pb hpb).trans h.arr)
 have hset:∀ v n xs,w1.ownsRow base 97 1 v n xs->(w1.setCell ⟨pb,pg,none⟩ (.slice (some ⟨g,0,none⟩) ((l pg).length+1) cap)).ownsRow base 97 1 v n xs:=fun v n xs hr=>
  hr.kept (row:=some pb) ⟨rfl,rfl,rfl,by simp[World.setCell],fun k _ hk=>Below.heap_setCell _ _ _ _ (fun e=>hk (by rw[e]))⟩ (by
   rcases hv:v.ownBlock with _ | b
   ·exact .inl rfl
   ·refine .inr fun he=>?_
    cases he
    have:=(hr.lt pb hv).1;have:=h.low;omega)
 refine⟨by simp[h.len],?_,h.low,fun k hk=>?_,fun j k hj hk hjk=>?_⟩
 ·rw[heap_setCell _ harr1];simp
 ·have hk':k<vs.length:=by simpa using hk
  by_cases hkp:k=pg
  ·subst hkp
   simp only[List.getElem_set_self,if_true]
   have:=hset _ _ _ hown
   simpa using this
  ·simp only[List.getElem_set_ne (fun e=>hkp e.symm),if_neg hkp]
   refine hset _ _ _ ?_
   have h1:W.ownsRow base 97 1 (vs[k]'hk') (l k).length ((l k).map fun e=>ptr e.p):=(h.kept hW).rows k hk'
   exact h1.kept hgrow (h.apart k pg hk' hpg hkp)
 ·have hj':j<vs.length:=by simpa using hj
  have hk':k<vs.length:=by simpa using hk
  have hold:∀ i (hi:i<vs.length),(vs[i]'hi).ownBlock=none\/∃ b,(vs[i]'hi).ownBlock=some b/\b<w.heap.size:=fun i hi=>by
   rcases hv:(vs[i]'hi).ownBlock with _ | b
   ·exact .inl rfl
   ·exact .inr ⟨b,rfl,((h.rows i hi).lt b hv).2⟩
  by_cases hjp:j=pg
  ·subst hjp
   simp only[List.getElem_set_self,List.getElem_set_ne hjk]
   refine .inr ?_
   show some g≠(vs[k]'hk').ownBlock
   rcases hat with ha | ha
   ·rcases h.apart j k hj' hk' hjk with h1 | h1
    ·rw[h1]at ha;cases ha
    ·rw[<-ha];exact h1
   ·rcases hold k hk' with h1 |⟨b,h1,h2⟩
    ·rw[h1];simp
    ·rw[h1];simp;omega
  ·simp only[List.getElem_set_ne (fun e=>hjp e.symm)]
   by_cases hkp:k=pg
   ·subst hkp
    simp only[List.getElem_set_self]
    show (vs[j]'hj').ownBlock=none\/(vs[j]'hj').ownBlock≠some g
    rcases hat with ha | ha
    ·rcases h.apart j k hj' hk' hjk with h1 | h1
     ·exact .inl h1
     ·exact .inr (by rw[<-ha];exact h1)
    ·rcases hold j hj' with h1 |⟨b,h1,h2⟩
     ·exact .inl h1
     ·exact .inr (by rw[h1];simp;omega)
   ·simp only[List.getElem_set_ne (fun e=>hkp e.symm)]
    exact h.apart j k hj' hk' hjk
theorem PagesB.slice{w:World}{pb base:Nat}{vs:List Value}{l:Nat->List Ent}(h:PagesB w pb base vs l)(k:Nat)(hk:k<16):
  ∃ a c,w.cell? ⟨pb,k,none⟩=some (.slice a (l k).length c)/\w.ownsRow base 97 1 (.slice a (l k).length c) (l k).length ((l k).map fun e=>ptr e.p)/\∀ f t,l k=f :: t->∃ g,a=some ⟨g,0,none⟩/\w.cell? ⟨g,0,none⟩=some (ptr f.p)/\base<=g/\g<w.heap.size:=by
 have hk':k<vs.length:=by rw[h.len];exact hk
 have hr:=h.rows k hk'
 have hc:=h.cell k hk
 rcases hr.2 with ⟨h1,h2⟩ |⟨g,c,cur,h1,h2,h3,h4,h5,h6,h7⟩
 ·rw[h1]at hc hr
  refine⟨none,0,by rw[hc,h2],by rw[h2];rw[h2]at hr;exact hr,fun f t ht=>?_⟩
  rw[ht]at h2
  simp at h2
 ·rw[h1]at hc hr
  refine⟨some ⟨g,0,none⟩,c,hc,hr,fun f t ht=>⟨g,rfl,?_,h2,lt_of_heap h3⟩⟩
  have:=row_cell (B:=g+1) (w:=w) (wr:=w) h3 h7 (Below.refl _ _) (by omega) 0 (by rw[ht];simp)
  simpa[ht]using this
theorem beginE_of{ne:Nat->Bool}{head p:Nat}(hh:head<=16)(h:beginE ne head=some p):p<16/\ne p=true:=by
 unfold beginE at h
 refine⟨?_,List.find?_some h⟩
 have hm:=List.mem_of_find?_eq_some h
 rw[List.mem_map]at hm
 obtain⟨i,hi,rfl⟩:=hm
 exact wrapAt_lt hh (List.mem_range.1 hi)
theorem ownsRow_one{w:World}{b:Nat}{v:Value}(t:TypeId)(hb:b<=w.heap.size):(w.alloc (.cells #[v] t)).ownsRow b t 1 (.slice (some ⟨w.heap.size,0,none⟩) 1 1) 1 [v]:=
 ⟨rfl,.inr ⟨w.heap.size,1,#[v],rfl,hb,World.alloc_heap_new w _,Nat.le_refl _,by decide,rfl,rfl⟩⟩
theorem grown_free{w w':World}{row:Option Nat}(hg:w.grownBy w' row){a:Addr}{v:Value}(h:w.cell? a=some v)(hf:w.frozen? a=false)(hne:some a.block≠row):w'.frozen? a=false:=
 (World.frozen?_of_block (hg.block a.block (World.block_lt_of_cell? w a h) hne)).trans hf
theorem pages0(w:World):PagesB (w.alloc (.cells #[.slice none 0 0,.slice none 0 0,.slice none 0 0,.slice none 0 0,.slice none 0 0,.slice none 0 0,.slice none 0 0,.slice none 0 0,.slice none 0 0,.slice none 0 0,.slice none 0 0,.slice none 0 0,.slice none 0 0,.slice none 0 0,.slice none 0 0,.slice none 0 0] 134)) w.heap.size (w.heap.size+1) (List.replicate 16 (.slice none 0 0)) (fun _=>[]):=
 ⟨rfl,World.alloc_heap_new w _,by omega,fun k hk=>by simp only[List.getElem_replicate];exact World.ownsRow_nil _ _ _ _,fun j k hj hk _=>.inl (by simp only[List.getElem_replicate];rfl)⟩
theorem push_rel{wr w:World}{pb:Nat}{vs:List Value}{L:List Ent}{j pg:Nat}{pv:Value}{xs:List Value}{n:Nat}(hlt:j<L.length)(hP:PagesB wr pb (w.heap.size+1) vs (fun k=>pageL (L.take j) k))(hB:Below w.heap.size w wr)(hpl:pg<vs.length)
  (hpv:vs[pg]'hpl=pv) (hn:(pageL (L.take j) pg).length=n) (hxs:(pageL (L.take j) pg).map (fun e=>ptr e.p)=xs) (e:Ent) (he:L[j]=e) (hq:e.r.page=pg) (hpb:w.heap.size<=pb) {W w1:World} {gg cap2:Nat}
  (hW:Below wr.heap.size wr W)
  (hown:w1.ownsRow (w.heap.size+1) 97 1 (.slice (some ⟨gg,0,none⟩) (n+1) cap2) (n+1) (xs ++ [ptr e.p])) (hgrow:W.grownBy w1 pv.ownBlock) (hat:pv.ownBlock=some gg\/gg=wr.heap.size+1):
  PagesB (w1.setCell ⟨pb,pg,none⟩ (.slice (some ⟨gg,0,none⟩) (n+1) cap2)) pb (w.heap.size+1) (vs.set pg (.slice (some ⟨gg,0,none⟩) (n+1) cap2)) (fun k=>pageL (L.take (j+1)) k)/\Below w.heap.size w (w1.setCell ⟨pb,pg,none⟩ (.slice (some ⟨gg,0,none⟩) (n+1) cap2)):=by
 subst hpv hn hxs
 refine⟨?_,Below.setCell (((hB.trans (hW.mono hB.size)).grown hgrow ?_ ?_)) hpb _⟩
 ·have h:=hP.push hW pg hpl e gg cap2 hown hgrow (hat.imp id (fun h=>by omega))
  refine (funext fun k=>?_:(fun k=>if k=pg then pageL (L.take j) pg ++ [e]else pageL (L.take j) k)=fun k=>pageL (L.take (j+1)) k) ▸ h
  rw[List.take_succ_eq_append_getElem hlt,he]
  unfold pageL
  rw[List.filter_append]
  by_cases hk:k=pg
  ·subst hk;simp[hq]
  ·simp only[if_neg hk]
   have:(e.r.page == (k:Int))=false:=by rw[hq];simp;omega
   simp[this]
 ·exact Nat.le_trans hB.size hW.size
 ·intro k hk
  have:=((hP.rows pg hpl).lt k hk).1
  omega
theorem gather_succ(K:Nat->List Ent)(a j:Nat):gather K a (j+1)=gather K a j ++ K (a+j):=by simp[gather,List.range_succ,List.flatMap_append]
theorem gather_len{K:Nat->List Ent}{B:Nat}(hK:∀ k,(K k).length<=B)(a:Nat):∀ j,(gather K a j).length<=j*B
 | 0=>by simp[gather]
 | j+1=>by rw[gather_succ,List.length_append,Nat.succ_mul];exact Nat.add_le_add (gather_len hK a j) (hK _)
theorem runLen_of{K:Nat->List Ent}{a most j:Nat}(h:∀ i,i<j->K (a+i)≠[])(hj:j<=most)(hs:j=most\/K (a+j)=[]):runLen K a most=j:=by
 unfold runLen
 have h1:List.range most=List.range j ++ List.range' j (most - j):=by
  rw[List.range_eq_range',List.range_eq_range',show List.range' j (most - j)=List.range' (0+1*j) (most - j)from by simp,List.range'_append]
  congr 1;omega
 rw[h1,List.takeWhile_append_of_pos (fun i hi=>by simpa using h i (List.mem_range.1 hi))]
 rcases hs with hs | hs
 ·subst hs;simp
 ·rcases Nat.lt_or_ge j most with hlt | hge
  ·rw[show most - j=(most - j - 1)+1 from by omega,List.range'_succ,List.takeWhile_cons_of_neg (by simp[hs])]
   simp
  ·rw[show most - j=0 from by omega];simp
theorem ownsRow_low{w:World}{b b':Nat}{t:TypeId}{v:Value}{n:Nat}{xs:List Value}(h:w.ownsRow b t 1 v n xs)(hb:b'<=b):w.ownsRow b' t 1 v n xs:=
 ⟨h.1,h.2.imp id fun ⟨g,c,cur,h1,h2,h3⟩=>⟨g,c,cur,h1,Nat.le_trans hb h2,h3⟩⟩
theorem next_any(v:Value)(base head:Nat)(L:List Ent)(w:World)(hrow:w.ownsRow base 97 1 v L.length (L.map fun e=>ptr e.p))(hlen:L.length<=1000000)(hr:∀ e∈L,ReqB w e.p e.r)(hpg:∀ e∈L,0<=e.r.page/\e.r.page<16)(hh:head<=16):
  Calls Tryx.prog 37 #[v,.int .i64 head] w fun e w'=>
   ∃ v':Value,e=.returned (.tuple #[.int .i64 (nextE L head).1,.int .i64 (nextE L head).2.1,v'])/\w'.ownsRow w.heap.size 97 1 v' (nextE L head).2.2.length ((nextE L head).2.2.map fun e=>ptr e.p)/\Below w.heap.size w w':=by
 obtain⟨i0,hi,hz0,hz1,hz2⟩:=info_parts Tryz.infoP
 have HR:=Lib.hid hr
 have HPG:=Lib.hid hpg
 clear hr hpg
 obtain⟨a,cap,rfl,hA⟩:∃ a cap,v=.slice a L.length cap/\∀ wr,Below w.heap.size w wr->∀ j (hj:j<L.length),∃ g,a=some ⟨g,0,none⟩/\wr.cell? ⟨g,j,none⟩=some (ptr (L[j]'hj).p):=by
  rcases hrow.2 with ⟨rfl,hz⟩ |⟨g,cap,cur,rfl,hbase,hgb,r1,r2,r3,r4⟩
  ·exact⟨none,0,by rw[hz],fun wr _ j hj=>by omega⟩
  ·exact⟨_,_,rfl,fun wr hb j hj=>⟨g,rfl,row_cell hgb r4 hb (lt_of_heap hgb) j hj⟩⟩
 have HA:=Lib.hid hA
 clear hrow hA
 go_enter Tryx.func37,Tryz.ntmps37
 go_wp2_with fail
 go_loopg [18] L.length (fun k i wr=>∃ (j:Nat) (vs:List Value),k=L.length - j/\j<=L.length/\i=.int .i64 j/\PagesB wr w.heap.size (w.heap.size+1) vs (fun k=>pageL (L.take j) k)/\Below w.heap.size w wr)
 case atStart=>exact ⟨0,_,by simp,Nat.zero_le _,rfl,pages0 w,(Below.refl _ _).alloc (Nat.le_refl _) _⟩
 case round=>
  obtain⟨j,vs,rfl,hj,rfl,hP,hB⟩:=hrel
  by_cases hlt:j<L.length
  ·obtain⟨g,rfl,hcell⟩:=HA.out wr hB j hlt
   obtain⟨e,he⟩:∃ e,L[j]=e:=⟨_,rfl⟩
   rw[he]at hcell
   have hmem:e∈L:=by rw[<-he];exact List.getElem_mem hlt
   have hR:ReqB wr e.p e.r:=(hB.block e.p (lt_of_heap (HR.out e hmem))).trans (HR.out e hmem)
   have c2:=hR.at.c2
   obtain⟨hp1,hp2⟩:=HPG.out e hmem
   obtain⟨pg,hpg⟩:∃ pg:Nat,e.r.page=pg:=⟨e.r.page.toNat,by omega⟩
   rw[hpg]at c2 hp1 hp2
   have hpl:pg<vs.length:=by rw[hP.len];omega
   have hcp:=hP.cell pg (by omega)
   obtain⟨pv,hpv⟩:∃ pv,vs[pg]'hpl=pv:=⟨_,rfl⟩
   rw[hpv]at hcp
   have hrowp:=hP.rows pg hpl
   rw[hpv]at hrowp
   have hfp:wr.frozen? ⟨w.heap.size,pg,none⟩=false:=free_of hP.arr
   have hpll:(pageL (L.take j) pg).length<=j:=Nat.le_trans (List.length_filter_le _ _) (List.length_take_le _ _)
   have hwlt:w.heap.size<wr.heap.size:=lt_of_heap hP.arr
   have helt:e.p<wr.heap.size:=lt_of_heap hR
   have ag:pv.ownBlock≠some w.heap.size:=fun h=>by have:=(hrowp.lt _ h).1;omega
   have ae:pv.ownBlock≠some e.p:=fun h=>by
    have:=(hrowp.lt _ h).1
    have:=lt_of_heap (HR.out e hmem)
    omega
   obtain⟨n,hn⟩:∃ n,(pageL (L.take j) pg).length=n:=⟨_,rfl⟩
   rw[hn]at hrowp hpll
   obtain⟨xs,hxs⟩:∃ xs,(pageL (L.take j) pg).map (fun e=>ptr e.p)=xs:=⟨_,rfl⟩
   rw[hxs]at hrowp
   have HE:=Lib.hid he
   have HP:=Lib.hid hP
   have HPV:=Lib.hid hpv
   have HN:=Lib.hid hn
   have HX:=Lib.hid hxs
   have HQ:=Lib.hid hpg
   clear hP hpv hn hxs hpg hR he
   go_wp2_with fail
   have hnep:(⟨w.heap.size,pg,none⟩:Addr).block≠(⟨e.p,2,none⟩:Addr).block:=Nat.ne_of_gt (lt_of_heap (HR.out e hmem))
   have n1:=World.new_ne wr _ hcp
   have n2:=World.new_ne wr _ c2
   go_region_law
    ((refine step_append_lies _ (by rfl) _ _ _ (by rfl) (w.heap.size+1) 97 i0 _ 1 8 Tryx.underlying90 hi hz0 hz1 hz2 rfl (by omega) pv n xs (by rfl) ((hrowp.alloc _).drew)
       ⟨wr.heap.size,0,none⟩ 1 1 [ptr e.p] (by rfl) (by rfl) (World.news_of_block (cs:=#[ptr e.p]) (t:=97) (fr:=(0,0)) (heap_alloc_new wr _)) (by simp[Value.oneCell'])
       (by omega) (by unfold maxLen;omega) (by omega) (by simp;omega) (wr.heap.size+1) (by simp) ?_;intro gg cap2 w1 hown1 hgrow hat hltg
      have z1:=hgrow.cell (a:=⟨e.p,2,none⟩) (v:=.int .i64 pg) (by go_keep) (fun h=>ae h.symm)
      have z2:=hgrow.cell (a:=⟨w.heap.size,pg,none⟩) (v:=pv) (by go_keep) (fun h=>ag h.symm)
      have z3:=grown_free hgrow (a:=⟨w.heap.size,pg,none⟩) (v:=pv) (by go_keep) (by simp[*,frozen?_alloc_cells]) (fun h=>ag h.symm)))
   all_goals try go_wp2_with fail
   all_goals go_roundg (L.length - (j+1))
   all_goals first
    | (show L.length - (j+1)<L.length - j;omega)
    | exact⟨j+1,_,rfl,by omega,by go_num,push_rel hlt HP.out hB hpl HPV.out HN.out HX.out e HE.out HQ.out (Nat.le_refl _) (by go_grown) hown1 hgrow hat⟩
  ·have hjl:j=L.length:=by omega
   subst hjl
   obtain⟨W1,rfl⟩:∃ x,x=wr:=⟨_,rfl⟩
   rw[List.take_length]at hP
   have hB1:=hP.arr
   go_wp2_with fail
   rw[show min (↑head:Int) 16=(head:Int)from by omega]
   refine (begin_any w.heap.size head (fun k=>(pageL L k).length) W1 hh ?_ ?_).mono ?_
   ·exact fun k=>Nat.le_trans (List.length_filter_le _ _) hlen
   ·exact fun k hk=>by obtain⟨a,c,h,_⟩:=hP.slice k hk;exact⟨a,c,h⟩
   rintro e w' ⟨rfl,rfl⟩
   cases hb:beginE (fun k=>decide (0<(pageL L k).length)) head with
   | none=>
     have hbI:beginI none= -1:=rfl
     rw[hbI]
     go_wp2
     go_ret3
     have hE:nextE L head=(0,0,[]):=by unfold nextE;rw[hb]
     rw[hE]
     exact⟨_,rfl,World.ownsRow_nil _ _ _ _,hB⟩
   | some p=>
     obtain⟨hp16,hne⟩:=beginE_of hh hb
     have hbI:beginI (some p)=(p:Int):=rfl
     rw[hbI]
     obtain⟨f,t,hft⟩:∃ f t,pageL L p=f :: t:=by
      cases hpl:pageL L p with
      | nil=>simp [hpl]at hne
      | cons f t=>exact ⟨f,t,rfl⟩
     obtain⟨a1,c1,hcp,hrow1,hfirst⟩:=hP.slice p hp16
     obtain⟨g1,rfl,hf1,hg1,hg2⟩:=hfirst f t hft
     have hfm:f∈L:=(List.mem_filter.1 (show f∈pageL L p from by rw[hft];simp)).1
     have hR:ReqB W1 f.p f.r:=(hB.block f.p (lt_of_heap (HR.out f hfm))).trans (HR.out f hfm)
     have cw:=hR.at.c1
     have ca:=hR.at.c10
     have hp0:(0:Int)<=(p:Int):=by omega
     have hp1:(p:Int)<16:=by omega
     have hpn:¬((p:Int)<0):=by omega
     have hl1:(0:Int)<((pageL L p).length:Int):=by rw[hft];simp
     obtain⟨m,hm⟩:∃ m,(pageL L p).length=m:=⟨_,rfl⟩
     rw[hm]at hcp hrow1 hl1
     have HP:=Lib.hid hP
     have HM:=Lib.hid hm
     have HFT:=Lib.hid hft
     have HB:=Lib.hid hb
     have HRf:=Lib.hid hR
     have HROW:=Lib.hid hrow1
     clear hP hm hft hb hne hfirst hR hrow1
     cases hal:f.r.alone with
     | true=>
       rw[hal]at ca
       go_wp2_with fail
       go_ret3
       have hE:nextE L head=(p,1,[f]):=by simp only[nextE,HB.out,HFT.out,hal,if_true]
       rw[hE]
       exact⟨_,rfl,ownsRow_one _ hB.size,hB.alloc hB.size _⟩
     | false=>
       rw[hal]at ca
       go_wp2_with fail
       obtain⟨M,hM⟩:∃ M:Nat,min 4 (16 - p)=M:=⟨_,rfl⟩
       rw[show min (4:Int) (16 - (p:Int))=(M:Int)from by omega]
       have HE:∀ n,runLen (nextK L f.r.write) p M=n->nextE L head=(p,n,gather (nextK L f.r.write) p n):=fun n hn=>by
        subst hn hM
        simp only[nextE,HB.out,HFT.out,hal,Bool.false_eq_true,if_false]
       obtain⟨K,hK⟩:∃ K,nextK L f.r.write=K:=⟨_,rfl⟩
       rw[hK]at HE
       have HKL:∀ k,(K k).length<=1000000:=fun k=>by rw[<-hK];exact Nat.le_trans (List.length_filter_le _ _) (Nat.le_trans (List.length_filter_le _ _) hlen)
       have HE:=Lib.hid HE
       have HM:=Lib.hid hM
       have HK:=Lib.hid hK
       have HKL:=Lib.hid HKL
       clear hK hM
       go_loopg [12,13] M (fun k out i wr=>∃ j:Nat,k=M - j/\j<=M/\i=.int .i64 j/\wr.ownsRow W1.heap.size 97 1 out (gather K p j).length ((gather K p j).map fun e=>ptr e.p)/\Hid (∀ i,i<j->K (p+i)≠[])/\Below W1.heap.size W1 wr)
       case atStart=>exact ⟨0,by simp,Nat.zero_le _,rfl,World.ownsRow_nil _ _ _ _,fun i hi=>absurd hi (by omega),Below.refl _ _⟩
       case round=>
        obtain⟨j,rfl,hj,rfl,hout,hall,hB2⟩:=hrel
        have hMM:=HM.out
        by_cases hlt:j<M
        ·have hpj:p+j<16:=by omega
         obtain⟨a2,c2,hcp2,hrow2,_⟩:=HP.out.slice (p+j) hpj
         have hlt2:(j:Int)<(M:Int):=by omega
         have hfw:ReqB wr f.p f.r:=(hB2.block f.p (lt_of_heap HRf.out)).trans HRf.out
         have cw2:=hfw.at.c1
         have hcp3:=(hB2.cell (p:=⟨w.heap.size,p+j,none⟩) (lt_of_heap HP.out.arr)).trans hcp2
         have hrow3:=hrow2.kept (row:=none) ⟨hB2.os,hB2.tape,hB2.output,hB2.size,fun i hi _=>hB2.block i hi⟩ (by cases (Value.slice a2 (pageL L (p+j)).length c2).ownBlock <;> simp)
         have HROW3:=Lib.hid hrow3
         clear hfw hrow2 hrow3 hcp2
         go_wp2_with fail
         rw[show (p:Int)+(j:Int)=((p+j:Nat):Int)from by omega]
         refine (kind_any w.heap.size (p+j) (w.heap.size+1) f.r.write _ (pageL L (p+j)) wr hpj hcp3 HROW3.out ?_ ?_).mono ?_
         ·exact Nat.le_trans (List.length_filter_le _ _) hlen
         ·exact fun e he=>(hB2.block e.p (lt_of_heap ((hB.block e.p (lt_of_heap (HR.out e (List.mem_filter.1 he).1))).trans (HR.out e (List.mem_filter.1 he).1)))).trans ((hB.block e.p (lt_of_heap (HR.out e (List.mem_filter.1 he).1))).trans (HR.out e (List.mem_filter.1 he).1))
         rintro e w3 ⟨l,rfl,hl,hB3⟩
         rw[show (pageL L (p+j)).filter (isKind f.r.write)=K (p+j)from by rw[<-HK.out];rfl]at hl
         obtain⟨nl,hnl⟩:∃ nl,(K (p+j)).length=nl:=⟨_,rfl⟩
         obtain⟨xl,hxl⟩:∃ xl,(K (p+j)).map (fun e=>ptr e.p)=xl:=⟨_,rfl⟩
         have hnl6:nl<=1000000:=hnl ▸ HKL.out (p+j)
         rw[hnl,hxl]at hl
         have HNL:=Lib.hid hnl
         have HXL:=Lib.hid hxl
         clear hnl hxl
         have FIN:K (p+j)=[]->∃ v':Value,Ending.returned (Value.tuple #[.int .i64 p,.int .i64 j,u12])=Ending.returned (Value.tuple #[.int .i64 (nextE L head).1,.int .i64 (nextE L head).2.1,v'])/\w3.ownsRow w.heap.size 97 1 v' (nextE L head).2.2.length ((nextE L head).2.2.map fun e=>ptr e.p)/\Below w.heap.size w w3:=fun h0=>by
          rw[HE.out j (runLen_of hall.out hj (.inr h0))]
          refine⟨_,rfl,ownsRow_low (hout.kept (row:=none) ⟨hB3.os,hB3.tape,hB3.output,hB3.size,fun i hi _=>hB3.block i hi⟩ (by cases u12.ownBlock <;> simp)) hB.size,(hB.trans (hB2.mono hB.size)).trans (hB3.mono (Nat.le_trans hB.size hB2.size))⟩
         rcases hl.2 with ⟨rfl,hz⟩ |⟨gl,capl,cur,rfl,hgl1,hgl2,hgl3,hgl4,hgl5,hgl6⟩
         ·subst hz
          go_wp2_with fail
          go_ret3
          exact FIN (List.length_eq_zero_iff.1 HNL.out)
         ·rcases Nat.eq_zero_or_pos nl with hz | hz
          ·subst hz
           go_wp2_with fail
           go_ret3
           exact FIN (List.length_eq_zero_iff.1 HNL.out)
          ·have hzI:¬((nl:Int)=0):=by omega
           obtain⟨no,hno⟩:∃ no,(gather K p j).length=no:=⟨_,rfl⟩
           obtain⟨xo,hxo⟩:∃ xo,(gather K p j).map (fun e=>ptr e.p)=xo:=⟨_,rfl⟩
           have hno6:no<=j*1000000:=hno ▸ gather_len HKL.out p j
           rw[hno,hxo]at hout
           have hout3:=hout.kept (row:=none) ⟨hB3.os,hB3.tape,hB3.output,hB3.size,fun i hi _=>hB3.block i hi⟩ (by cases u12.ownBlock <;> simp)
           have HNO:=Lib.hid hno
           have HXO:=Lib.hid hxo
           have HF:=Lib.hid FIN
           clear hno hxo FIN
           have hnews:∀ j u,xl[j]?=some u->w3.cell? ((⟨gl,0,none⟩:Addr).add j)=some u:=fun j u hu=>World.news_of_block hgl2 j u (by
            rw[<-hgl6,List.getElem?_take]at hu
            split at hu
            ·exact hu
            ·cases hu)
           have hone:∀ u∈xl,u.oneCell'=true:=by
            rw[<-HXL.out]
            intro u hu
            obtain⟨e,_,rfl⟩:=List.mem_map.1 hu
            rfl
           have hxll:xl.length=nl*1:=hl.1
           have HNW:=Lib.hid hnews
           have HON:=Lib.hid hone
           have hsz3:W1.heap.size<=w3.heap.size:=Nat.le_trans hB2.size hB3.size
           clear hnews hone
           go_wp2_with (at_builtin;refine wpList_append_own _ rfl _ _ 90 rfl W1.heap.size 97 i0 (.pointer none) 1 8 Tryx.underlying90 hi hz0 hz1 hz2 rfl (by decide) _ _ _ rfl hout3 ⟨gl,0,none⟩ nl capl xl rfl hxll HNW.out HON.out ?_ ?_ ?_ ?_)
           ·unfold maxLen;omega
           ·omega
           ·exact hsz3
           intro v' w4 hown' hgrow _
           have hB4:Below W1.heap.size W1 w4:=(hB2.trans (hB3.mono hB2.size)).grown hgrow hsz3 (fun k ek=>(hout.lt k ek).1)
           have hown4:w4.ownsRow W1.heap.size 97 1 v' (gather K p (j+1)).length ((gather K p (j+1)).map fun e=>ptr e.p):=by
            rw[gather_succ,List.length_append,List.map_append,HNO.out,HNL.out,HXO.out,HXL.out];exact hown'
           have HO4:=Lib.hid hown4
           clear hown' hgrow hown4 hout hout3
           go_wp2
           go_roundg (M - (j+1))
           case measure=>omega
           case rel=>exact ⟨j+1,rfl,by omega,by go_num,HO4.out,fun i hi=>by
            rcases Nat.lt_or_ge i j with h | h
            ·exact hall.out i h
            ·rw[show i=j from by omega]
             intro h0
             have:=HNL.out
             rw[h0]at this
             simp at this;omega,hB4⟩
        ·have hjM:j=M:=by omega
         subst hjM
         go_wp2_with fail
         go_ret3
         rw[HE.out j (runLen_of hall.out hj (.inl rfl))]
         exact⟨_,rfl,ownsRow_low hout hB.size,(hB.trans (hB2.mono hB.size))⟩
end
section
open Go.RowKit Go.Extern.Stop Go.Stop Go.Extern
set_option maxRecDepth 100000
abbrev errK(k:Int):Value:=.iface 37 (.int .i64 k)
abbrev errR(p:Nat):Value:=.iface 172 (.pointer (some ⟨p,0,none⟩))
theorem Tryz.cfTypeOfK(k:Int)(w:World):(callFunc 99 #[errK k]).run Tryx.prog w=.ok (.value (.iface 205 (.agg #[.pointer (some ⟨1,37,none⟩)]))) w:=by kernel_rfl
theorem Tryz.cfComparable(w:World):(callFunc 187 #[.agg #[.pointer (some ⟨1,37,none⟩)]]).run Tryx.prog w=.ok (.value (.bool true)) w:=by kernel_rfl
theorem Tryz.noIsK(v:Value)(xT:TypeId)(w:World):(Instr.typeAssert (.iface 37 v) xT 207 true).run Tryx.prog w=.ok (.tuple #[.nilIface,.bool false]) w:=
 run_typeAssert_lacksB Tryx.underlying207 (by kernel_rfl) (by kernel_rfl) v xT w
theorem Tryz.noUnK(v:Value)(xT:TypeId)(w:World):(Instr.typeAssert (.iface 37 v) xT 210 true).run Tryx.prog w=.ok (.tuple #[.nilIface,.bool false]) w:=
 run_typeAssert_lacksB Tryx.underlying210 (by kernel_rfl) (by kernel_rfl) v xT w
theorem Tryz.noUnsK(v:Value)(xT:TypeId)(w:World):(Instr.typeAssert (.iface 37 v) xT 212 true).run Tryx.prog w=.ok (.tuple #[.nilIface,.bool false]) w:=
 run_typeAssert_lacksB Tryx.underlying212 (by kernel_rfl) (by kernel_rfl) v xT w
theorem Tryz.noIsR(v:Value)(xT:TypeId)(w:World):(Instr.typeAssert (.iface 172 v) xT 207 true).run Tryx.prog w=.ok (.tuple #[.nilIface,.bool false]) w:=
 run_typeAssert_lacksB Tryx.underlying207 (by kernel_rfl) (by kernel_rfl) v xT w
theorem Tryz.unR(v:Value)(xT:TypeId)(w:World):(Instr.typeAssert (.iface 172 v) xT 210 true).run Tryx.prog w=.ok (.tuple #[.iface 172 v,.bool true]) w:=
 run_typeAssert_hasB Tryx.underlying210 (by kernel_rfl) v xT w
theorem Tryz.eqNilK(i:Int)(w:World):(binOp BinOp.eql 81 .nilIface (errK i)).run Tryx.prog w=.ok (.bool false) w:=by kernel_rfl
theorem Tryz.eqKK(k i:Int)(w:World):(binOp BinOp.eql 81 (errK k) (errK i)).run Tryx.prog w=.ok (.bool (k == i)) w:=by kernel_rfl
theorem Tryz.eqRK(p:Nat)(i:Int)(w:World):(binOp BinOp.eql 81 (errR p) (errK i)).run Tryx.prog w=.ok (.bool false) w:=by kernel_rfl
theorem is_nil(i:Int)(w:World):Calls Tryx.prog 62 #[.nilIface,errK i] w fun e w'=>e=.returned (.bool false)/\w=w':=by
 have q1:=Tryz.eqNilK
 go_enter Tryx.func62,Tryz.ntmps62
 go_wp2
 go_ret
 exact⟨rfl,rfl⟩
theorem is1_kind(k i:Int)(w:World):Calls Tryx.prog 100 #[errK k,errK i,.bool true] w fun e w'=>e=.returned (.bool (k == i))/\w=w':=by
 have n1:=Tryz.noIsK
 have n2:=Tryz.noUnK
 have n3:=Tryz.noUnsK
 have n4:=Tryz.eqKK
 by_cases h:k=i
 ·subst h
  go_enter Tryx.func100,Tryz.ntmps100
  go_wp2
  refine wp_loop_rounds 1 ?_
  rw[rounds_succ]
  go_wp2
  go_ret
  exact⟨by simp,rfl⟩
 ·have h':(k == i)=false:=by simpa using h
  go_enter Tryx.func100,Tryz.ntmps100
  go_wp2
  refine wp_loop_rounds 1 ?_
  rw[rounds_succ]
  go_wp2
  go_ret
  exact⟨by simp[h'],rfl⟩
theorem is_kind(k i:Int)(w:World):Calls Tryx.prog 62 #[errK k,errK i] w fun e w'=>e=.returned (.bool (k == i))/\w=w':=by
 have tO:=Tryz.cfTypeOfK
 have tC:=Tryz.cfComparable
 go_enter Tryx.func62,Tryz.ntmps62
 go_wp2_with (go_at_call 100;refine (is1_kind _ _ _).mono ?_;rintro e w' ⟨rfl,rfl⟩)
 go_ret
 exact⟨rfl,rfl⟩
structure ReqErr(w:World)(p:Nat)(r t k:Int):Prop where
 c0:w.cell? ⟨p,0,none⟩=some (.int .i64 r)
 c1:w.cell? ⟨p,1,none⟩=some (.int .i64 t)
 c2:w.cell? ⟨p,2,none⟩=some (.int .i64 k)
theorem unwrap_req(p:Nat)(r t k:Int)(w:World)(h:ReqErr w p r t k):Calls Tryx.prog 181 #[.pointer (some ⟨p,0,none⟩)] w fun e w'=>e=.returned (errK k)/\w=w':=by
 obtain⟨_,_,c2⟩:=h
 go_enter Tryx.func181,Tryz.ntmps181
 go_wp2
 go_ret
 exact⟨rfl,rfl⟩
theorem is1_req(p:Nat)(r t k i:Int)(w:World)(h:ReqErr w p r t k):Calls Tryx.prog 100 #[errR p,errK i,.bool true] w fun e w'=>e=.returned (.bool (k == i))/\w=w':=by
 have n1:=Tryz.noIsK
 have n2:=Tryz.noUnK
 have n3:=Tryz.noUnsK
 have n4:=Tryz.eqKK
 have n5:=Tryz.noIsR
 have n6:=Tryz.unR
 have n7:=Tryz.eqRK
 have hU:=unwrap_req p r t k w h
 clear h
 by_cases h:k=i
 ·subst h
  go_enter Tryx.func100,Tryz.ntmps100
  go_wp2
  refine wp_loop_rounds 2 ?_
  rw[rounds_succ]
  go_wp2_with (go_at_call 181;refine hU.mono ?_;rintro e w' ⟨rfl,rfl⟩)
  rw[rounds_succ]
  go_wp2
  go_ret
  exact⟨by simp,rfl⟩
 ·have h':(k == i)=false:=by simpa using h
  go_enter Tryx.func100,Tryz.ntmps100
  go_wp2
  refine wp_loop_rounds 2 ?_
  rw[rounds_succ]
  go_wp2_with (go_at_call 181;refine hU.mono ?_;rintro e w' ⟨rfl,rfl⟩)
  rw[rounds_succ]
  go_wp2
  go_ret
  exact⟨by simp[h'],rfl⟩
theorem is_req(p:Nat)(r t k i:Int)(w:World)(h:ReqErr w p r t k):Calls Tryx.prog 62 #[errR p,errK i] w fun e w'=>e=.returned (.bool (k == i))/\w=w':=by
 have tO:=Tryz.cfTypeOfK
 have tC:=Tryz.cfComparable
 go_enter Tryx.func62,Tryz.ntmps62
 go_wp2_with (go_at_call 100;refine (is1_req _ _ _ _ _ _ h).mono ?_;rintro e w' ⟨rfl,rfl⟩)
 go_ret
 exact⟨rfl,rfl⟩
end
section
open Go.RowKit Go.Extern.Stop Go.Stop Go.Extern
abbrev hdl(t:Nat):Value:=.pointer (some ⟨1,t,none⟩)
abbrev rty(t:Nat):Value:=.iface 205 (.agg #[hdl t])
abbrev ErrVar(w:World):Prop:=w.cell? ⟨0,0,none⟩=some (rty 81)
abbrev rval(t:Nat)(a:Addr)(f:Int):Value:=.agg #[hdl t,.pointer (some a),.int .u64 f]
theorem Tryz.voPP(t:Addr)(w:World):(callFunc 114 #[.iface 174 (.pointer (some t))]).run Tryx.prog w=.ok (.value (rval 174 ⟨w.heap.size,0,none⟩ 150)) (w.alloc (.cells #[.pointer (some t)] 174)):=by kernel_rfl
theorem Tryz.voPK(t:Addr)(w:World):(callFunc 114 #[.iface 177 (.pointer (some t))]).run Tryx.prog w=.ok (.value (rval 177 ⟨w.heap.size,0,none⟩ 150)) (w.alloc (.cells #[.pointer (some t)] 177)):=by kernel_rfl
theorem Tryz.voR(p:Nat)(w:World):(callFunc 114 #[errR p]).run Tryx.prog w=.ok (.value (rval 172 ⟨w.heap.size,0,none⟩ 150)) (w.alloc (.cells #[.pointer (some ⟨p,0,none⟩)] 172)):=by kernel_rfl
theorem Tryz.voK(k:Int)(w:World):(callFunc 114 #[errK k]).run Tryx.prog w=.ok (.value (rval 37 ⟨w.heap.size,0,none⟩ 130)) (w.alloc (.cells #[.int .i64 k] 37)):=by kernel_rfl
theorem Tryz.tyPP(a:Addr)(w:World):(callFunc 115 #[rval 174 a 150]).run Tryx.prog w=.ok (.value (rty 174)) w:=by kernel_rfl
theorem Tryz.tyPK(a:Addr)(w:World):(callFunc 115 #[rval 177 a 150]).run Tryx.prog w=.ok (.value (rty 177)) w:=by kernel_rfl
theorem Tryz.kdPP(w:World):(callFunc 176 #[hdl 174]).run Tryx.prog w=.ok (.value (.int .u8 22)) w:=by kernel_rfl
theorem Tryz.kdPK(w:World):(callFunc 176 #[hdl 177]).run Tryx.prog w=.ok (.value (.int .u8 22)) w:=by kernel_rfl
theorem Tryz.kdR(w:World):(callFunc 176 #[hdl 172]).run Tryx.prog w=.ok (.value (.int .u8 22)) w:=by kernel_rfl
theorem Tryz.kdK(w:World):(callFunc 176 #[hdl 37]).run Tryx.prog w=.ok (.value (.int .u8 2)) w:=by kernel_rfl
theorem Tryz.elPP(w:World):(callFunc 188 #[.agg #[hdl 174]]).run Tryx.prog w=.ok (.value (rty 172)) w:=by kernel_rfl
theorem Tryz.elPK(w:World):(callFunc 188 #[.agg #[hdl 177]]).run Tryx.prog w=.ok (.value (rty 37)) w:=by kernel_rfl
theorem Tryz.imR(w:World):(callFunc 189 #[.agg #[hdl 172],rty 81]).run Tryx.prog w=.ok (.value (.bool true)) w:=by kernel_rfl
theorem Tryz.imK(w:World):(callFunc 189 #[.agg #[hdl 37],rty 81]).run Tryx.prog w=.ok (.value (.bool true)) w:=by kernel_rfl
theorem Tryz.toR(p:Nat)(w:World):(callFunc 99 #[errR p]).run Tryx.prog w=.ok (.value (rty 172)) w:=by kernel_rfl
theorem Tryz.asRR(w:World):(callFunc 186 #[.agg #[hdl 172],rty 172]).run Tryx.prog w=.ok (.value (.bool true)) w:=by kernel_rfl
theorem Tryz.asKK(w:World):(callFunc 186 #[.agg #[hdl 37],rty 37]).run Tryx.prog w=.ok (.value (.bool true)) w:=by kernel_rfl
theorem Tryz.asKR(w:World):(callFunc 186 #[.agg #[hdl 37],rty 172]).run Tryx.prog w=.ok (.value (.bool false)) w:=by kernel_rfl
theorem Tryz.noAsK(v:Value)(xT:TypeId)(w:World):(Instr.typeAssert (.iface 37 v) xT 224 true).run Tryx.prog w=.ok (.tuple #[.nilIface,.bool false]) w:=
 run_typeAssert_lacksB Tryx.underlying224 (by kernel_rfl) (by kernel_rfl) v xT w
theorem rlm(z:Sem Value)(f:TypeId->Addr->Nat->Nat->Sem Value)(v:Value):
  ReflectliteValue.method z f #[v]=(do match <-ReflectliteValue.parts v with | none=>z | some (t,a,fl)=>f t a fl (fl % 32)):=rfl
theorem Tryz.partsPP(a:Addr)(w:World):(ReflectliteValue.parts (rval 174 a 150)).run Tryx.prog w=.ok (some (174,a,150)) w:=by kernel_rfl
theorem Tryz.partsPK(a:Addr)(w:World):(ReflectliteValue.parts (rval 177 a 150)).run Tryx.prog w=.ok (some (177,a,150)) w:=by kernel_rfl
theorem Tryz.inPP(a p:Addr)(W:World)(ha:W.cell? a=some (.pointer (some p))):
  (callFunc 116 #[rval 174 a 150]).run Tryx.prog W=.ok (.value (.bool false)) W:=by
 rw[@run_callFunc_extern Tryx.prog 116 _ (ReflectliteValue.method (ReflectliteValue.valueError "reflectlite.Value.IsNil" 0) ReflectliteValue.isNil) Tryx.func116 (by kernel_rfl) (by kernel_rfl) (by kernel_rfl) (by kernel_rfl)]
 rw[rlm]
 simp only[Sem.run_bind,Tryz.partsPP,Result.andThen]
 simp[ReflectliteValue.isNil,loadVar,isAgg,underlying,Tryx.underlying174,ha,Result.andThen]
theorem Tryz.inPK(a p:Addr)(W:World)(ha:W.cell? a=some (.pointer (some p))):
  (callFunc 116 #[rval 177 a 150]).run Tryx.prog W=.ok (.value (.bool false)) W:=by
 rw[@run_callFunc_extern Tryx.prog 116 _ (ReflectliteValue.method (ReflectliteValue.valueError "reflectlite.Value.IsNil" 0) ReflectliteValue.isNil) Tryx.func116 (by kernel_rfl) (by kernel_rfl) (by kernel_rfl) (by kernel_rfl)]
 rw[rlm]
 simp only[Sem.run_bind,Tryz.partsPK,Result.andThen]
 simp[ReflectliteValue.isNil,loadVar,isAgg,underlying,Tryx.underlying177,ha,Result.andThen]
theorem Tryz.eoPP(w:World):(Rtype.elem? 174).run Tryx.prog w=.ok (some 172) w:=by kernel_rfl
theorem Tryz.eoPK(w:World):(Rtype.elem? 177).run Tryx.prog w=.ok (some 37) w:=by kernel_rfl
theorem Tryz.mkR(p:Addr)(w:World):(ReflectliteValue.mk 172 p ReflectliteValue.flagAddr).run Tryx.prog w=.ok (rval 172 p 406) w:=by kernel_rfl
theorem Tryz.mkK(p:Addr)(w:World):(ReflectliteValue.mk 37 p ReflectliteValue.flagAddr).run Tryx.prog w=.ok (rval 37 p 386) w:=by kernel_rfl
theorem Tryz.evPP(a p:Addr)(W:World)(ha:W.cell? a=some (.pointer (some p))):
  (callFunc 127 #[rval 174 a 150]).run Tryx.prog W=.ok (.value (rval 172 p 406)) W:=by
 rw[@run_callFunc_extern Tryx.prog 127 _ (ReflectliteValue.method (ReflectliteValue.valueError "reflectlite.Value.Elem" 0) ReflectliteValue.elem) Tryx.func127 (by kernel_rfl) (by kernel_rfl) (by kernel_rfl) (by kernel_rfl)]
 rw[rlm]
 simp only[Sem.run_bind,Tryz.partsPP,Result.andThen]
 simp[ReflectliteValue.elem,loadVar,isAgg,underlying,Tryx.underlying174,ha,Result.andThen,Tryz.eoPP,Tryz.mkR]
theorem Tryz.evPK(a p:Addr)(W:World)(ha:W.cell? a=some (.pointer (some p))):
  (callFunc 127 #[rval 177 a 150]).run Tryx.prog W=.ok (.value (rval 37 p 386)) W:=by
 rw[@run_callFunc_extern Tryx.prog 127 _ (ReflectliteValue.method (ReflectliteValue.valueError "reflectlite.Value.Elem" 0) ReflectliteValue.elem) Tryx.func127 (by kernel_rfl) (by kernel_rfl) (by kernel_rfl) (by kernel_rfl)]
 rw[rlm]
 simp only[Sem.run_bind,Tryz.partsPK,Result.andThen]
 simp[ReflectliteValue.elem,loadVar,isAgg,underlying,Tryx.underlying177,ha,Result.andThen,Tryz.eoPK,Tryz.mkK]
theorem rls(v x:Value):ReflectliteValue.set #[v,x]=(do
  let (some (dst,a,fl),some (src,b,_)):=(<-ReflectliteValue.parts v,<-ReflectliteValue.parts x)
   | unsupported (.noEntry "extern/(internal/reflectlite.Value).Set.zeroValue")
  if fl / ReflectliteValue.flagAddr % 2 == 0 then unsupported (.noEntry "extern/(internal/reflectlite.Value).Set.unaddressable")
  let val <-loadVar src b
  if <-Rtype.directlyAssignable dst src then storeVar dst a val
  else if <-Rtype.implements dst src then
   if (<-Rtype.kind src) == 20 then
    match val with
    | .nilIface=>unsupported (.noEntry "extern/reflectlite: a nil value of one interface type handed on as a value of another")
    | _=>storeVar dst a val
   else storeVar dst a (.iface src val)
  else panicString ("reflectlite.Set: value of type " ++ (<-Rtype.spelt src) ++ " is not assignable to type " ++ (<-Rtype.spelt dst))
  pure (.tuple #[])):=rfl
theorem Tryz.partsRa(a:Addr)(w:World):(ReflectliteValue.parts (rval 172 a 406)).run Tryx.prog w=.ok (some (172,a,406)) w:=by kernel_rfl
theorem Tryz.partsR(a:Addr)(w:World):(ReflectliteValue.parts (rval 172 a 150)).run Tryx.prog w=.ok (some (172,a,150)) w:=by kernel_rfl
theorem Tryz.partsKa(a:Addr)(w:World):(ReflectliteValue.parts (rval 37 a 386)).run Tryx.prog w=.ok (some (37,a,386)) w:=by kernel_rfl
theorem Tryz.partsK(a:Addr)(w:World):(ReflectliteValue.parts (rval 37 a 130)).run Tryx.prog w=.ok (some (37,a,130)) w:=by kernel_rfl
theorem Tryz.direct56(w:World):(Rtype.directlyAssignable 172 172).run Tryx.prog w=.ok true w:=by kernel_rfl
theorem Tryz.direct22(w:World):(Rtype.directlyAssignable 37 37).run Tryx.prog w=.ok true w:=by kernel_rfl
theorem Tryz.setR(ta b:Addr)(e:Nat)(old:Value)(W:World)(hb:W.cell? b=some (.pointer (some ⟨e,0,none⟩)))(ht:W.cell? ta=some old)(hf:W.frozen? ta=false):
  (callFunc 128 #[rval 172 ta 406,rval 172 b 150]).run Tryx.prog W=.ok (.value (.tuple #[])) (W.setCell ta (.pointer (some ⟨e,0,none⟩))):=by
 rw[@run_callFunc_extern Tryx.prog 128 _ ReflectliteValue.set Tryx.func128 (by kernel_rfl) (by kernel_rfl) (by kernel_rfl) (by kernel_rfl)]
 rw[rls]
 simp only[Sem.run_bind,Tryz.partsRa,Tryz.partsR,Result.andThen]
 simp[ReflectliteValue.flagAddr,loadVar,isAgg,underlying,Tryx.underlying172,hb,Result.andThen,Tryz.direct56,storeVar,Value.cells,storeCells,Addr.add]
 rw[run_store Tryx.prog W ta _ _ (by rfl)]
 simp[ht,hf]
theorem Tryz.setK(ta b:Addr)(k:Int)(old:Value)(W:World)(hb:W.cell? b=some (.int .i64 k))(ht:W.cell? ta=some old)(hf:W.frozen? ta=false):
  (callFunc 128 #[rval 37 ta 386,rval 37 b 130]).run Tryx.prog W=.ok (.value (.tuple #[])) (W.setCell ta (.int .i64 k)):=by
 rw[@run_callFunc_extern Tryx.prog 128 _ ReflectliteValue.set Tryx.func128 (by kernel_rfl) (by kernel_rfl) (by kernel_rfl) (by kernel_rfl)]
 rw[rls]
 simp only[Sem.run_bind,Tryz.partsKa,Tryz.partsK,Result.andThen]
 simp[ReflectliteValue.flagAddr,loadVar,isAgg,underlying,Tryx.underlying37,hb,Result.andThen,Tryz.direct22,storeVar,Value.cells,storeCells,Addr.add]
 rw[run_store Tryx.prog W ta _ _ (by rfl)]
 simp[ht,hf]
end
section
open Go.RowKit Go.Extern.Stop Go.Stop Go.Extern
set_option maxRecDepth 100000
set_option maxHeartbeats 8000000
theorem lt_of_cellE{w:World}{a:Addr}{v:Value}(h:w.cell? a=some v):a.block<w.heap.size:=by
 rcases Nat.lt_or_ge a.block w.heap.size with h' | h'
 ·exact h'
 ·simp[World.cell?,Array.getElem?_eq_none h']at h
theorem as1_hitR(p:Nat)(t a:Addr)(old:Value)(w:World)(ha:w.cell? a=some (.pointer (some t)))(ht:w.cell? t=some old)(hf:w.frozen? t=false):
  Calls Tryx.prog 117 #[errR p,.iface 174 (.pointer (some t)),rval 174 a 150,rty 172] w fun e w'=>e=.returned (.bool true)/\
   w'=((w.alloc (.cells #[hdl 174,.pointer (some a),.int .u64 150] 197)).alloc (.cells #[.pointer (some ⟨p,0,none⟩)] 172)).setCell t (.pointer (some ⟨p,0,none⟩)):=by
 have hla:=lt_of_cellE ha
 have hlt:=lt_of_cellE ht
 have c1:=Tryz.toR p
 have c2:=Tryz.asRR
 have c3:=Tryz.evPP a t (w.alloc (.cells #[hdl 174,.pointer (some a),.int .u64 150] 197)) (by rw[World.cell?_alloc_lt _ _ _ hla];exact ha)
 have c4:=Tryz.voR p
 have c5:=Tryz.setR t ⟨w.heap.size+1,0,none⟩ p old ((w.alloc (.cells #[hdl 174,.pointer (some a),.int .u64 150] 197)).alloc (.cells #[.pointer (some ⟨p,0,none⟩)] 172)) (by rw[World.cell?_alloc_at _ _ _ _ (by simp)];rfl)
  (by rw[World.cell?_alloc_lt _ _ t (by simp;omega),World.cell?_alloc_lt _ _ t hlt];exact ht) (by rw[World.frozen?_alloc_old _ _ t (by simp;omega),World.frozen?_alloc_old _ _ t (by omega)];exact hf)
 clear ha ht hf hla hlt
 go_enter Tryx.func117,Tryz.ntmps117
 go_wp2
 refine wp_loop_rounds 1 ?_
 rw[rounds_succ]
 go_wp2
 go_ret
 exact⟨rfl,rfl⟩
theorem as1_hitK(k:Int)(t a:Addr)(old:Value)(w:World)(ha:w.cell? a=some (.pointer (some t)))(ht:w.cell? t=some old)(hf:w.frozen? t=false):
  Calls Tryx.prog 117 #[errK k,.iface 177 (.pointer (some t)),rval 177 a 150,rty 37] w fun e w'=>e=.returned (.bool true)/\
   w'=((w.alloc (.cells #[hdl 177,.pointer (some a),.int .u64 150] 197)).alloc (.cells #[.int .i64 k] 37)).setCell t (.int .i64 k):=by
 have hla:=lt_of_cellE ha
 have hlt:=lt_of_cellE ht
 have c1:=Tryz.cfTypeOfK k
 have c2:=Tryz.asKK
 have c3:=Tryz.evPK a t (w.alloc (.cells #[hdl 177,.pointer (some a),.int .u64 150] 197)) (by rw[World.cell?_alloc_lt _ _ _ hla];exact ha)
 have c4:=Tryz.voK k
 have c5:=Tryz.setK t ⟨w.heap.size+1,0,none⟩ k old ((w.alloc (.cells #[hdl 177,.pointer (some a),.int .u64 150] 197)).alloc (.cells #[.int .i64 k] 37)) (by rw[World.cell?_alloc_at _ _ _ _ (by simp)];rfl)
  (by rw[World.cell?_alloc_lt _ _ t (by simp;omega),World.cell?_alloc_lt _ _ t hlt];exact ht) (by rw[World.frozen?_alloc_old _ _ t (by simp;omega),World.frozen?_alloc_old _ _ t (by omega)];exact hf)
 clear ha ht hf hla hlt
 go_enter Tryx.func117,Tryz.ntmps117
 go_wp2
 refine wp_loop_rounds 1 ?_
 rw[rounds_succ]
 go_wp2
 go_ret
 exact⟨rfl,rfl⟩
theorem as1_missK(k:Int)(t a:Addr)(w:World):
  Calls Tryx.prog 117 #[errK k,.iface 174 (.pointer (some t)),rval 174 a 150,rty 172] w fun e w'=>e=.returned (.bool false)/\
   w'=w.alloc (.cells #[hdl 174,.pointer (some a),.int .u64 150] 197):=by
 have c1:=Tryz.cfTypeOfK k
 have c2:=Tryz.asKR
 have c3:=Tryz.noAsK
 have c4:=Tryz.noUnK
 have c5:=Tryz.noUnsK
 go_enter Tryx.func117,Tryz.ntmps117
 go_wp2
 refine wp_loop_rounds 1 ?_
 rw[rounds_succ]
 go_wp2
 go_ret
 exact⟨rfl,rfl⟩
end
end Go.Proofs.YticobikhndlejaaGreatDoor
