/- Part 8 of the proof (see the last part). -/
import Derived.Test.YticobikhndlejaaGreatDoorOrG
import Derived.Deep.AppendLies
import Derived.Deep.RegionHeld3
import Derived.Test.YticobikhndlejaaGreatDoorRows
import Derived.Stop.Asserts
namespace Go.Proofs.YticobikhndlejaaGreatDoor
section
open Go.RowKit Go.Shelf Go.Lib
set_option maxRecDepth 100000
set_option maxHeartbeats 8000000
theorem wrapAt_lt{head i:Nat}(h:head<=16)(hi:i<16):wrapAt head i<16:=by unfold wrapAt;split <;> omega
def beginI(o:Option Nat):Int:=match o with | some p=>(p:Int) | none=>-1
theorem beginE_some{ne:Nat->Bool}{head k:Nat}(hk:k<16)(h1:∀ j,j<k->ne (wrapAt head j)=false)(h2:ne (wrapAt head k)=true):beginE ne head=some (wrapAt head k):=by
 unfold beginE
 rw[List.find?_map,Option.map_eq_some_iff]
 refine⟨k,?_,rfl⟩
 rw[List.find?_eq_some_iff_append]
 refine⟨h2,List.range k,(List.range' (k+1) (16 - (k+1))),?_,fun a ha=>by simpa using h1 a (List.mem_range.1 ha)⟩
 rw[List.range_eq_range',List.range_eq_range',show (k :: List.range' (k+1) (16 - (k+1)))=List.range' k (16 - k)from by rw[show 16 - k=(16 - (k+1))+1 from by omega];rfl]
 rw[show List.range' k (16 - k)=List.range' (0+1*k) (16 - k)from by simp,List.range'_append]
 congr 1;omega
theorem beginE_none{ne:Nat->Bool}{head:Nat}(h1:∀ j,j<16->ne (wrapAt head j)=false):beginE ne head=none:=by
 unfold beginE
 rw[List.find?_eq_none]
 intro x hx
 obtain⟨j,hj,rfl⟩:=List.mem_map.1 hx
 simpa using h1 j (List.mem_range.1 hj)
theorem begin_any(pb head:Nat)(n:Nat->Nat)(w:World)(hh:head<=16)(hn:∀ k,n k<=1000000)(hc:∀ k,k<16->∃ a c,w.cell? ⟨pb,k,none⟩=some (.slice a (n k) c)):
  Calls Tryx.prog 66 #[ptr pb,.int .i64 head] w fun e w'=>e=.returned (.int .i64 (beginI (beginE (fun k=>decide (0<n k)) head)))/\w=w':=by
 have HC:=Lib.hid hc
 have HN:=Lib.hid hn
 clear hc hn
 go_enter Tryx.func66,Tryz.ntmps66
 go_wp2_with fail
 go_loop [7] (fun i=>∃ k:Nat,k<=16/\i=.int .i64 k/\Hid (∀ j,j<k->decide (0<n (wrapAt head j))=false)) (fun i=>(16 - intOf i).toNat)
 case atStart=>exact ⟨0,by omega,rfl,fun j hj=>absurd hj (by omega)⟩
 case round=>
  obtain⟨k,hk,rfl,HJ⟩:=hrel
  by_cases hlt:k<16
  ·have hwl:=wrapAt_lt hh hlt
   obtain⟨a,c,hcell⟩:=HC.out _ hwl
   have hnb:=HN.out (wrapAt head k)
   obtain⟨m,hm⟩:∃ m,n (wrapAt head k)=m:=⟨_,rfl⟩
   rw[hm]at hcell hnb
   by_cases hge:16<=head+k
   ·have hw:wrapAt head k=head+k - 16:=by unfold wrapAt;rw[if_pos hge]
    obtain⟨q,hq⟩:∃ q,head+k=q+16:=⟨head+k - 16,by omega⟩
    have hq2:wrapAt head k=q:=by omega
    rw[hq2]at hcell
    have hq3:(head:Int)+k - 16=q:=by omega
    by_cases h0:0<m
    ·have HB:=Lib.hid (beginE_some (ne:=fun k=>decide (0<n k)) hlt HJ.out (by simp[hm,h0]))
     have HW:=Lib.hid hq2
     have hq5:q<16:=by omega
     clear hw hm hq hq2
     go_wp2
     go_ret
     exact⟨by rw[HB.out,HW.out];rfl,rfl⟩
    ·have h0':m=0:=by omega
     subst h0'
     have HJ':Hid (∀ j,j<k+1->decide (0<n (wrapAt head j))=false):=fun j hj=>by
      by_cases hjk:j=k
      ·subst hjk;simp[hm]
      ·exact HJ.out j (by omega)
     have hq5:q<16:=by omega
     clear hw hm hq hq2
     go_wp2
     go_round
     case rel=>exact ⟨k+1,by omega,by go_num,HJ'⟩
     case measure=>simp [intOf];omega
   ·have hw:wrapAt head k=head+k:=by unfold wrapAt;rw[if_neg hge]
    rw[hw]at hcell
    by_cases h0:0<m
    ·have HB:=Lib.hid (beginE_some (ne:=fun k=>decide (0<n k)) hlt HJ.out (by simp[hm,h0]))
     have HW:=Lib.hid hw
     clear hw hm
     go_wp2
     go_ret
     exact⟨by rw[HB.out,HW.out];rfl,rfl⟩
    ·have h0':m=0:=by omega
     subst h0'
     have HJ':Hid (∀ j,j<k+1->decide (0<n (wrapAt head j))=false):=fun j hj=>by
      by_cases hjk:j=k
      ·subst hjk;simp[hm]
      ·exact HJ.out j (by omega)
     clear hw hm
     go_wp2
     go_round
     case rel=>exact ⟨k+1,by omega,by go_num,HJ'⟩
     case measure=>simp [intOf];omega
  ·have hk16:k=16:=by omega
   subst hk16
   have HB:=Lib.hid (beginE_none (ne:=fun k=>decide (0<n k)) HJ.out)
   go_wp2
   go_ret
   exact⟨by rw[HB.out];rfl,rfl⟩
theorem row_cell{w:World}{g:Nat}{cur:Array Value}{t:TypeId}{L:List Ent}(hgb:w.heap[g]?=some (.cells cur t (0,0)))(r4:cur.toList.take (L.length*1)=L.map fun e=>ptr e.p){B:Nat}{wr:World}(hb:Below B w wr)(hg:g<B)(j:Nat)(hj:j<L.length):
  wr.cell? ⟨g,j,none⟩=some (ptr (L[j]'hj).p):=by
 rw[hb.cell (p:=⟨g,j,none⟩) hg]
 simp only[World.cell?,hgb]
 have h1:(cur.toList.take (L.length*1))[j]?=(L.map fun e=>ptr e.p)[j]?:=by rw[r4]
 rw[Nat.mul_one,List.getElem?_take_of_lt hj,List.getElem?_map,List.getElem?_eq_getElem hj]at h1
 simpa using h1
theorem kind_any(pb page base:Nat)(write:Bool)(v:Value)(L:List Ent)(w:World)(hp:page<16)(hc:w.cell? ⟨pb,page,none⟩=some v)(hrow:w.ownsRow base 97 1 v L.length (L.map fun e=>ptr e.p))(hlen:L.length<=1000000)(hr:∀ e∈L,ReqB w e.p e.r):
  Calls Tryx.prog 67 #[ptr pb,.int .i64 page,.bool write] w fun e w'=>
   ∃ v':Value,e=.returned v'/\w'.ownsRow w.heap.size 97 1 v' (L.filter (isKind write)).length ((L.filter (isKind write)).map fun e=>ptr e.p)/\Below w.heap.size w w':=by
 obtain⟨i0,hi,hz0,hz1,hz2⟩:=info_parts Tryz.infoP
 have hp1:(0:Int)<=(page:Int):=by omega
 have hp2:(page:Int)<16:=by omega
 have HR:=Lib.hid hr
 clear hr
 rcases hrow.2 with ⟨rfl,hz⟩ |⟨g,cap,cur,rfl,hbase,hgb,r1,r2,r3,r4⟩
 ·have hL:L=[]:=List.eq_nil_of_length_eq_zero hz
  subst hL
  clear hrow
  go_enter Tryx.func67,Tryz.ntmps67
  go_wp2
  refine wp_loop_rounds 1 ?_
  rw[rounds_succ]
  go_wp2
  go_ret
  exact⟨_,rfl,World.ownsRow_nil _ _ _ _,Below.refl _ _⟩
 ·have HCe:=Lib.hid (fun wr (hb:Below w.heap.size w wr) j hj=>row_cell hgb r4 hb (lt_of_heap hgb) j hj)
  clear hrow r4 r1 r2 r3
  go_enter Tryx.func67,Tryz.ntmps67
  go_wp2_with fail
  go_loopg [7,16] L.length (fun k out i wr=>∃ j:Nat,k=L.length - j/\j<=L.length/\i=.int .i64 j/\wr.ownsRow w.heap.size 97 1 out ((L.take j).filter (isKind write)).length (((L.take j).filter (isKind write)).map fun e=>ptr e.p)/\Below w.heap.size w wr)
  case atStart=>exact ⟨0,by simp,Nat.zero_le _,rfl,World.ownsRow_nil _ _ _ _,Below.refl _ _⟩
  case round=>
   obtain⟨j,rfl,hj,rfl,hrow,hB⟩:=hrel
   by_cases hlt:j<L.length
   ·have hcell:=HCe.out wr hB j hlt
    obtain⟨e,he⟩:∃ e,L[j]=e:=⟨_,rfl⟩
    rw[he]at hcell
    have hmem:e∈L:=by rw[<-he];exact List.getElem_mem hlt
    have hR:ReqB wr e.p e.r:=(hB.block e.p (lt_of_heap (HR.out e hmem))).trans (HR.out e hmem)
    have c1:=hR.at.c1
    have c10:=hR.at.c10
    have HE:=Lib.hid he
    clear hR he
    cases hk:isKind write e with
    | false=>
      have HN:=Lib.hid (filter_take_no (isKind write) hlt (by rw[HE.out];exact hk))
      by_cases hw:e.r.write=write
      ·have hal:e.r.alone=true:=by simpa[isKind,hw]using hk
       rw[hal]at c10
       rw[hw]at c1
       have hww:(write == write)=true:=by simp
       clear hk hal hw
       go_wp2
       go_roundg (L.length - (j+1))
       case measure=>omega
       case rel=>exact ⟨j+1,rfl,by omega,by go_num,by rw[HN.out];exact hrow,hB⟩
      ·have hww:(e.r.write == write)=false:=by simpa using hw
       clear hk hw
       go_wp2
       go_roundg (L.length - (j+1))
       case measure=>omega
       case rel=>exact ⟨j+1,rfl,by omega,by go_num,by rw[HN.out];exact hrow,hB⟩
    | true=>
      have HN:=Lib.hid (filter_take_yes (isKind write) hlt (by rw[HE.out];exact hk))
      simp only[isKind,Bool.and_eq_true,beq_iff_eq,Bool.not_eq_true']at hk
      obtain⟨hw,hal⟩:=hk
      rw[hal]at c10
      rw[hw]at c1
      have hww:(write == write)=true:=by simp
      have hfl:((L.take j).filter (isKind write)).length<=j:=Nat.le_trans (List.length_filter_le _ _) (List.length_take_le _ _)
      obtain⟨R,hRR⟩:∃ R,(L.take j).filter (isKind write)=R:=⟨_,rfl⟩
      rw[hRR]at hrow hfl
      have HRR:=Lib.hid hRR
      have hsz:=hB.size
      clear hw hal hRR
      go_wp2_with (at_builtin;refine wpList_append_own _ rfl _ _ 90 rfl w.heap.size 97 i0 (.pointer none) 1 8 Tryx.underlying90 hi hz0 hz1 hz2 rfl (by decide) _ _ _ rfl (hrow.alloc _) ⟨wr.heap.size,0,none⟩ 1 1 [ptr e.p] rfl rfl (cell_one_new _ _ _) (by simp[Value.oneCell']) ?_ ?_ ?_ ?_)
      ·unfold maxLen;omega
      ·omega
      ·rw[World.size_alloc];omega
      intro v' w2 hown' hgrow _
      have hB2:Below w.heap.size w w2:=(hB.alloc hsz _).grown hgrow (by rw[World.size_alloc];omega) (fun k ek=>(hrow.lt k ek).1)
      have hown2:w2.ownsRow w.heap.size 97 1 v' ((L.take (j+1)).filter (isKind write)).length (((L.take (j+1)).filter (isKind write)).map fun e=>ptr e.p):=by
       rw[HN.out,HE.out,HRR.out];simpa using hown'
      have HO2:=Lib.hid hown2
      clear hown' hgrow hown2 hrow
      go_wp2
      go_roundg (L.length - (j+1))
      case measure=>omega
      case rel=>exact ⟨j+1,rfl,by omega,by go_num,HO2.out,hB2⟩
   ·have hjl:j=L.length:=by omega
    have HRw:=Lib.hid hrow
    have HJ:=Lib.hid hjl
    clear hrow hjl
    go_wp2
    go_ret
    refine⟨_,rfl,?_,hB⟩
    have h1:=HRw.out
    rw[HJ.out,List.take_length]at h1
    exact h1
structure PagesB(w:World)(pb base:Nat)(vs:List Value)(l:Nat->List Ent):Prop where
 len:vs.length=16
 arr:w.heap[pb]?=some (.cells vs.toArray 134 (0,0))
 low:pb<base
 rows:∀ k (h:k<vs.length),w.ownsRow base 97 1 (vs[k]'h) (l k).length ((l k).map fun e=>ptr e.p)
 apart:∀ j k (hj:j<vs.length) (hk:k<vs.length),j≠k->(vs[j]'hj).ownBlock=none\/(vs[j]'hj).ownBlock≠(vs[k]'hk).ownBlock
theorem PagesB.cell{w:World}{pb base:Nat}{vs:List Value}{l:Nat->List Ent}(h:PagesB w pb base vs l)(k:Nat)(hk:k<16):w.cell? ⟨pb,k,none⟩=some (vs[k]'(h.len ▸ hk)):=
 cell_of h.arr (by simp[h.len,hk])
theorem PagesB.kept{w w':World}{pb base:Nat}{vs:List Value}{l:Nat->List Ent}(h:PagesB w pb base vs l)(hb:Below w.heap.size w w'):PagesB w' pb base vs l:=
 ⟨h.len,(hb.block _ (lt_of_heap h.arr)).trans h.arr,h.low,fun k hk=>(h.rows k hk).kept (row:=none) ⟨hb.os,hb.tape,hb.output,hb.size,fun i hi _=>hb.block i hi⟩ (by
   rcases hv:(vs[k]'hk).ownBlock with _ | g
   ·exact .inl rfl
   ·exact .inr (by simp)),h.apart⟩
theorem PagesB.push{w W w1:World}{pb base:Nat}{vs:List Value}{l:Nat->List Ent}(h:PagesB w pb base vs l)(hW:Below w.heap.size w W)(pg:Nat)(hpg:pg<vs.length)(e:Ent)(g cap:Nat)
  (hown:w1.ownsRow base 97 1 (.slice (some ⟨g,0,none⟩) ((l pg).length+1) cap) ((l pg).length+1) ((l pg).map (fun e=>ptr e.p) ++ [ptr e.p]))
  (hgrow:W.grownBy w1 (vs[pg]'hpg).ownBlock) (hat:(vs[pg]'hpg).ownBlock=some g\/w.heap.size<=g):
  PagesB (w1.setCell ⟨pb,pg,none⟩ (.slice (some ⟨g,0,none⟩) ((l pg).length+1) cap)) pb base (vs.set pg (.slice (some ⟨g,0,none⟩) ((l pg).length+1) cap)) (fun k=>if k=pg then l pg ++ [e]else l k):=by
 have hpb:=lt_of_heap h.arr
 have hpbne:some pb≠(vs[pg]'hpg).ownBlock:=fun he=>by have:=((h.rows pg hpg).lt pb he.symm).1;have:=h.low;omega
 have harr1:w1.heap[pb]?=some (.cells vs.toArray 134 (0,0)):=(hgrow.block pb (Nat.lt_of_lt_of_le hpb hW.size) hpbne).trans ((hW.block pb hpb).trans h.arr)
 have hset:∀ v n xs,w1.ownsRow base 97 1 v n xs->(w1.setCell ⟨pb,pg,none⟩ (.slice (some ⟨g,0,none⟩) ((l pg).length+1) cap)).ownsRow base 97 1 v n xs:=fun v n xs hr=>
  hr.kept (row:=some pb) ⟨rfl,rfl,rfl,by simp[World.setCell],fun k _ hk=>Below.heap_setCell _ _ _ _ (fun e=>hk (by rw[e]))⟩ (by
   rcases hv:v.ownBlock with _ | b
   ·exact .inl rfl
   ·refine .inr fun he=>?_
    cases he
    have:=(hr.lt pb hv).1;have:=h.low;omega)
 refine⟨by simp[h.len],?_,h.low,fun k hk=>?_,fun j k hj hk hjk=>?_⟩
 ·rw[heap_setCell _ harr1];simp
 ·have hk':k<vs.length:=by simpa using hk
  by_cases hkp:k=pg
  ·subst hkp
   simp only[List.getElem_set_self,if_true]
   have:=hset _ _ _ hown
   simpa using this
  ·simp only[List.getElem_set_ne (fun e=>hkp e.symm),if_neg hkp]
   refine hset _ _ _ ?_
   have h1:W.ownsRow base 97 1 (vs[k]'hk') (l k).length ((l k).map fun e=>ptr e.p):=(h.kept hW).rows k hk'
   exact h1.kept hgrow (h.apart k pg hk' hpg hkp)
 ·have hj':j<vs.length:=by simpa using hj
  have hk':k<vs.length:=by simpa using hk
  have hold:∀ i (hi:i<vs.length),(vs[i]'hi).ownBlock=none\/∃ b,(vs[i]'hi).ownBlock=some b/\b<w.heap.size:=fun i hi=>by
   rcases hv:(vs[i]'hi).ownBlock with _ | b
   ·exact .inl rfl
   ·exact .inr ⟨b,rfl,((h.rows i hi).lt b hv).2⟩
  by_cases hjp:j=pg
  ·subst hjp
   simp only[List.getElem_set_self,List.getElem_set_ne hjk]
   refine .inr ?_
   show some g≠(vs[k]'hk').ownBlock
   rcases hat with ha | ha
   ·rcases h.apart j k hj' hk' hjk with h1 | h1
    ·rw[h1]at ha;cases ha
    ·rw[<-ha];exact h1
   ·rcases hold k hk' with h1 |⟨b,h1,h2⟩
    ·rw[h1];simp
    ·rw[h1];simp;omega
  ·simp only[List.getElem_set_ne (fun e=>hjp e.symm)]
   by_cases hkp:k=pg
   ·subst hkp
    simp only[List.getElem_set_self]
    show (vs[j]'hj').ownBlock=none\/(vs[j]'hj').ownBlock≠some g
    rcases hat with ha | ha
    ·rcases h.apart j k hj' hk' hjk with h1 | h1
     ·exact .inl h1
     ·exact .inr (by rw[<-ha];exact h1)
    ·rcases hold j hj' with h1 |⟨b,h1,h2⟩
     ·exact .inl h1
     ·exact .inr (by rw[h1];simp;omega)
   ·simp only[List.getElem_set_ne (fun e=>hkp e.symm)]
    exact h.apart j k hj' hk' hjk
theorem PagesB.slice{w:World}{pb base:Nat}{vs:List Value}{l:Nat->List Ent}(h:PagesB w pb base vs l)(k:Nat)(hk:k<16):
  ∃ a c,w.cell? ⟨pb,k,none⟩=some (.slice a (l k).length c)/\w.ownsRow base 97 1 (.slice a (l k).length c) (l k).length ((l k).map fun e=>ptr e.p)/\∀ f t,l k=f :: t->∃ g,a=some ⟨g,0,none⟩/\w.cell? ⟨g,0,none⟩=some (ptr f.p)/\base<=g/\g<w.heap.size:=by
 have hk':k<vs.length:=by rw[h.len];exact hk
 have hr:=h.rows k hk'
 have hc:=h.cell k hk
 rcases hr.2 with ⟨h1,h2⟩ |⟨g,c,cur,h1,h2,h3,h4,h5,h6,h7⟩
 ·rw[h1]at hc hr
  refine⟨none,0,by rw[hc,h2],by rw[h2];rw[h2]at hr;exact hr,fun f t ht=>?_⟩
  rw[ht]at h2
  simp at h2
 ·rw[h1]at hc hr
  refine⟨some ⟨g,0,none⟩,c,hc,hr,fun f t ht=>⟨g,rfl,?_,h2,lt_of_heap h3⟩⟩
  have:=row_cell (B:=g+1) (w:=w) (wr:=w) h3 h7 (Below.refl _ _) (by omega) 0 (by rw[ht];simp)
  simpa[ht]using this
theorem beginE_of{ne:Nat->Bool}{head p:Nat}(hh:head<=16)(h:beginE ne head=some p):p<16/\ne p=true:=by
 unfold beginE at h
 refine⟨?_,List.find?_some h⟩
 have hm:=List.mem_of_find?_eq_some h
 rw[List.mem_map]at hm
 obtain⟨i,hi,rfl⟩:=hm
 exact wrapAt_lt hh (List.mem_range.1 hi)
theorem ownsRow_one{w:World}{b:Nat}{v:Value}(t:TypeId)(hb:b<=w.heap.size):(w.alloc (.cells #[v] t)).ownsRow b t 1 (.slice (some ⟨w.heap.size,0,none⟩) 1 1) 1 [v]:=
 ⟨rfl,.inr ⟨w.heap.size,1,#[v],rfl,hb,World.alloc_heap_new w _,Nat.le_refl _,by decide,rfl,rfl⟩⟩
theorem grown_free{w w':World}{row:Option Nat}(hg:w.grownBy w' row){a:Addr}{v:Value}(h:w.cell? a=some v)(hf:w.frozen? a=false)(hne:some a.block≠row):w'.frozen? a=false:=
 (World.frozen?_of_block (hg.block a.block (World.block_lt_of_cell? w a h) hne)).trans hf
theorem pages0(w:World):PagesB (w.alloc (.cells #[.slice none 0 0,.slice none 0 0,.slice none 0 0,.slice none 0 0,.slice none 0 0,.slice none 0 0,.slice none 0 0,.slice none 0 0,.slice none 0 0,.slice none 0 0,.slice none 0 0,.slice none 0 0,.slice none 0 0,.slice none 0 0,.slice none 0 0,.slice none 0 0] 134)) w.heap.size (w.heap.size+1) (List.replicate 16 (.slice none 0 0)) (fun _=>[]):=
 ⟨rfl,World.alloc_heap_new w _,by omega,fun k hk=>by simp only[List.getElem_replicate];exact World.ownsRow_nil _ _ _ _,fun j k hj hk _=>.inl (by simp only[List.getElem_replicate];rfl)⟩
theorem push_rel{wr w:World}{pb:Nat}{vs:List Value}{L:List Ent}{j pg:Nat}{pv:Value}{xs:List Value}{n:Nat}(hlt:j<L.length)(hP:PagesB wr pb (w.heap.size+1) vs (fun k=>pageL (L.take j) k))(hB:Below w.heap.size w wr)(hpl:pg<vs.length)
  (hpv:vs[pg]'hpl=pv) (hn:(pageL (L.take j) pg).length=n) (hxs:(pageL (L.take j) pg).map (fun e=>ptr e.p)=xs) (e:Ent) (he:L[j]=e) (hq:e.r.page=pg) (hpb:w.heap.size<=pb) {W w1:World} {gg cap2:Nat}
  (hW:Below wr.heap.size wr W)
  (hown:w1.ownsRow (w.heap.size+1) 97 1 (.slice (some ⟨gg,0,none⟩) (n+1) cap2) (n+1) (xs ++ [ptr e.p])) (hgrow:W.grownBy w1 pv.ownBlock) (hat:pv.ownBlock=some gg\/gg=wr.heap.size+1):
  PagesB (w1.setCell ⟨pb,pg,none⟩ (.slice (some ⟨gg,0,none⟩) (n+1) cap2)) pb (w.heap.size+1) (vs.set pg (.slice (some ⟨gg,0,none⟩) (n+1) cap2)) (fun k=>pageL (L.take (j+1)) k)/\Below w.heap.size w (w1.setCell ⟨pb,pg,none⟩ (.slice (some ⟨gg,0,none⟩) (n+1) cap2)):=by
 subst hpv hn hxs
 refine⟨?_,Below.setCell (((hB.trans (hW.mono hB.size)).grown hgrow ?_ ?_)) hpb _⟩
 ·have h:=hP.push hW pg hpl e gg cap2 hown hgrow (hat.imp id (fun h=>by omega))
  refine (funext fun k=>?_:(fun k=>if k=pg then pageL (L.take j) pg ++ [e]else pageL (L.take j) k)=fun k=>pageL (L.take (j+1)) k) ▸ h
  rw[List.take_succ_eq_append_getElem hlt,he]
  unfold pageL
  rw[List.filter_append]
  by_cases hk:k=pg
  ·subst hk;simp[hq]
  ·simp only[if_neg hk]
   have:(e.r.page == (k:Int))=false:=by rw[hq];simp;omega
   simp[this]
 ·exact Nat.le_trans hB.size hW.size
 ·intro k hk
  have:=((hP.rows pg hpl).lt k hk).1
  omega
theorem gather_succ(K:Nat->List Ent)(a j:Nat):gather K a (j+1)=gather K a j ++ K (a+j):=by simp[gather,List.range_succ,List.flatMap_append]
theorem gather_len{K:Nat->List Ent}{B:Nat}(hK:∀ k,(K k).length<=B)(a:Nat):∀ j,(gather K a j).length<=j*B
 | 0=>by simp[gather]
 | j+1=>by rw[gather_succ,List.length_append,Nat.succ_mul];exact Nat.add_le_add (gather_len hK a j) (hK _)
theorem runLen_of{K:Nat->List Ent}{a most j:Nat}(h:∀ i,i<j->K (a+i)≠[])(hj:j<=most)(hs:j=most\/K (a+j)=[]):runLen K a most=j:=by
 unfold runLen
 have h1:List.range most=List.range j ++ List.range' j (most - j):=by
  rw[List.range_eq_range',List.range_eq_range',show List.range' j (most - j)=List.range' (0+1*j) (most - j)from by simp,List.range'_append]
  congr 1;omega
 rw[h1,List.takeWhile_append_of_pos (fun i hi=>by simpa using h i (List.mem_range.1 hi))]
 rcases hs with hs | hs
 ·subst hs;simp
 ·rcases Nat.lt_or_ge j most with hlt | hge
  ·rw[show most - j=(most - j - 1)+1 from by omega,List.range'_succ,List.takeWhile_cons_of_neg (by simp[hs])]
   simp
  ·rw[show most - j=0 from by omega];simp
theorem ownsRow_low{w:World}{b b':Nat}{t:TypeId}{v:Value}{n:Nat}{xs:List Value}(h:w.ownsRow b t 1 v n xs)(hb:b'<=b):w.ownsRow b' t 1 v n xs:=
 ⟨h.1,h.2.imp id fun ⟨g,c,cur,h1,h2,h3⟩=>⟨g,c,cur,h1,Nat.le_trans hb h2,h3⟩⟩
theorem next_any(v:Value)(base head:Nat)(L:List Ent)(w:World)(hrow:w.ownsRow base 97 1 v L.length (L.map fun e=>ptr e.p))(hlen:L.length<=1000000)(hr:∀ e∈L,ReqB w e.p e.r)(hpg:∀ e∈L,0<=e.r.page/\e.r.page<16)(hh:head<=16):
  Calls Tryx.prog 37 #[v,.int .i64 head] w fun e w'=>
   ∃ v':Value,e=.returned (.tuple #[.int .i64 (nextE L head).1,.int .i64 (nextE L head).2.1,v'])/\w'.ownsRow w.heap.size 97 1 v' (nextE L head).2.2.length ((nextE L head).2.2.map fun e=>ptr e.p)/\Below w.heap.size w w':=by
 obtain⟨i0,hi,hz0,hz1,hz2⟩:=info_parts Tryz.infoP
 have HR:=Lib.hid hr
 have HPG:=Lib.hid hpg
 clear hr hpg
 obtain⟨a,cap,rfl,hA⟩:∃ a cap,v=.slice a L.length cap/\∀ wr,Below w.heap.size w wr->∀ j (hj:j<L.length),∃ g,a=some ⟨g,0,none⟩/\wr.cell? ⟨g,j,none⟩=some (ptr (L[j]'hj).p):=by
  rcases hrow.2 with ⟨rfl,hz⟩ |⟨g,cap,cur,rfl,hbase,hgb,r1,r2,r3,r4⟩
  ·exact⟨none,0,by rw[hz],fun wr _ j hj=>by omega⟩
  ·exact⟨_,_,rfl,fun wr hb j hj=>⟨g,rfl,row_cell hgb r4 hb (lt_of_heap hgb) j hj⟩⟩
 have HA:=Lib.hid hA
 clear hrow hA
 go_enter Tryx.func37,Tryz.ntmps37
 go_wp2_with fail
 go_loopg [18] L.length (fun k i wr=>∃ (j:Nat) (vs:List Value),k=L.length - j/\j<=L.length/\i=.int .i64 j/\PagesB wr w.heap.size (w.heap.size+1) vs (fun k=>pageL (L.take j) k)/\Below w.heap.size w wr)
 case atStart=>exact ⟨0,_,by simp,Nat.zero_le _,rfl,pages0 w,(Below.refl _ _).alloc (Nat.le_refl _) _⟩
 case round=>
  obtain⟨j,vs,rfl,hj,rfl,hP,hB⟩:=hrel
  by_cases hlt:j<L.length
  ·obtain⟨g,rfl,hcell⟩:=HA.out wr hB j hlt
   obtain⟨e,he⟩:∃ e,L[j]=e:=⟨_,rfl⟩
   rw[he]at hcell
   have hmem:e∈L:=by rw[<-he];exact List.getElem_mem hlt
   have hR:ReqB wr e.p e.r:=(hB.block e.p (lt_of_heap (HR.out e hmem))).trans (HR.out e hmem)
   have c2:=hR.at.c2
   obtain⟨hp1,hp2⟩:=HPG.out e hmem
   obtain⟨pg,hpg⟩:∃ pg:Nat,e.r.page=pg:=⟨e.r.page.toNat,by omega⟩
   rw[hpg]at c2 hp1 hp2
   have hpl:pg<vs.length:=by rw[hP.len];omega
   have hcp:=hP.cell pg (by omega)
   obtain⟨pv,hpv⟩:∃ pv,vs[pg]'hpl=pv:=⟨_,rfl⟩
   rw[hpv]at hcp
   have hrowp:=hP.rows pg hpl
   rw[hpv]at hrowp
   have hfp:wr.frozen? ⟨w.heap.size,pg,none⟩=false:=free_of hP.arr
   have hpll:(pageL (L.take j) pg).length<=j:=Nat.le_trans (List.length_filter_le _ _) (List.length_take_le _ _)
   have hwlt:w.heap.size<wr.heap.size:=lt_of_heap hP.arr
   have helt:e.p<wr.heap.size:=lt_of_heap hR
   have ag:pv.ownBlock≠some w.heap.size:=fun h=>by have:=(hrowp.lt _ h).1;omega
   have ae:pv.ownBlock≠some e.p:=fun h=>by
    have:=(hrowp.lt _ h).1
    have:=lt_of_heap (HR.out e hmem)
    omega
   obtain⟨n,hn⟩:∃ n,(pageL (L.take j) pg).length=n:=⟨_,rfl⟩
   rw[hn]at hrowp hpll
   obtain⟨xs,hxs⟩:∃ xs,(pageL (L.take j) pg).map (fun e=>ptr e.p)=xs:=⟨_,rfl⟩
   rw[hxs]at hrowp
   have HE:=Lib.hid he
   have HP:=Lib.hid hP
   have HPV:=Lib.hid hpv
   have HN:=Lib.hid hn
   have HX:=Lib.hid hxs
   have HQ:=Lib.hid hpg
   clear hP hpv hn hxs hpg hR he
   go_wp2_with fail
   have hnep:(⟨w.heap.size,pg,none⟩:Addr).block≠(⟨e.p,2,none⟩:Addr).block:=Nat.ne_of_gt (lt_of_heap (HR.out e hmem))
   have n1:=World.new_ne wr _ hcp
   have n2:=World.new_ne wr _ c2
   go_region_law
    ((refine step_append_lies _ (by rfl) _ _ _ (by rfl) (w.heap.size+1) 97 i0 _ 1 8 Tryx.underlying90 hi hz0 hz1 hz2 rfl (by omega) pv n xs (by rfl) ((hrowp.alloc _).drew)
       ⟨wr.heap.size,0,none⟩ 1 1 [ptr e.p] (by rfl) (by rfl) (World.news_of_block (cs:=#[ptr e.p]) (t:=97) (fr:=(0,0)) (heap_alloc_new wr _)) (by simp[Value.oneCell'])
       (by omega) (by unfold maxLen;omega) (by omega) (by simp;omega) (wr.heap.size+1) (by simp) ?_;intro gg cap2 w1 hown1 hgrow hat hltg
      have z1:=hgrow.cell (a:=⟨e.p,2,none⟩) (v:=.int .i64 pg) (by go_keep) (fun h=>ae h.symm)
      have z2:=hgrow.cell (a:=⟨w.heap.size,pg,none⟩) (v:=pv) (by go_keep) (fun h=>ag h.symm)
      have z3:=grown_free hgrow (a:=⟨w.heap.size,pg,none⟩) (v:=pv) (by go_keep) (by simp[*,frozen?_alloc_cells]) (fun h=>ag h.symm)))
   all_goals try go_wp2_with fail
   all_goals go_roundg (L.length - (j+1))
   all_goals first
    | (show L.length - (j+1)<L.length - j;omega)
    | exact⟨j+1,_,rfl,by omega,by go_num,push_rel hlt HP.out hB hpl HPV.out HN.out HX.out e HE.out HQ.out (Nat.le_refl _) (by go_grown) hown1 hgrow hat⟩
  ·have hjl:j=L.length:=by omega
   subst hjl
   obtain⟨W1,rfl⟩:∃ x,x=wr:=⟨_,rfl⟩
   rw[List.take_length]at hP
   have hB1:=hP.arr
   go_wp2_with fail
   rw[show min (↑head:Int) 16=(head:Int)from by omega]
   refine (begin_any w.heap.size head (fun k=>(pageL L k).length) W1 hh ?_ ?_).mono ?_
   ·exact fun k=>Nat.le_trans (List.length_filter_le _ _) hlen
   ·exact fun k hk=>by obtain⟨a,c,h,_⟩:=hP.slice k hk;exact⟨a,c,h⟩
   rintro e w' ⟨rfl,rfl⟩
   cases hb:beginE (fun k=>decide (0<(pageL L k).length)) head with
   | none=>
     have hbI:beginI none= -1:=rfl
     rw[hbI]
     go_wp2
     go_ret3
     have hE:nextE L head=(0,0,[]):=by unfold nextE;rw[hb]
     rw[hE]
     exact⟨_,rfl,World.ownsRow_nil _ _ _ _,hB⟩
   | some p=>
     obtain⟨hp16,hne⟩:=beginE_of hh hb
     have hbI:beginI (some p)=(p:Int):=rfl
     rw[hbI]
     obtain⟨f,t,hft⟩:∃ f t,pageL L p=f :: t:=by
      cases hpl:pageL L p with
      | nil=>simp [hpl]at hne
      | cons f t=>exact ⟨f,t,rfl⟩
     obtain⟨a1,c1,hcp,hrow1,hfirst⟩:=hP.slice p hp16
     obtain⟨g1,rfl,hf1,hg1,hg2⟩:=hfirst f t hft
     have hfm:f∈L:=(List.mem_filter.1 (show f∈pageL L p from by rw[hft];simp)).1
     have hR:ReqB W1 f.p f.r:=(hB.block f.p (lt_of_heap (HR.out f hfm))).trans (HR.out f hfm)
     have cw:=hR.at.c1
     have ca:=hR.at.c10
     have hp0:(0:Int)<=(p:Int):=by omega
     have hp1:(p:Int)<16:=by omega
     have hpn:¬((p:Int)<0):=by omega
     have hl1:(0:Int)<((pageL L p).length:Int):=by rw[hft];simp
     obtain⟨m,hm⟩:∃ m,(pageL L p).length=m:=⟨_,rfl⟩
     rw[hm]at hcp hrow1 hl1
     have HP:=Lib.hid hP
     have HM:=Lib.hid hm
     have HFT:=Lib.hid hft
     have HB:=Lib.hid hb
     have HRf:=Lib.hid hR
     have HROW:=Lib.hid hrow1
     clear hP hm hft hb hne hfirst hR hrow1
     cases hal:f.r.alone with
     | true=>
       rw[hal]at ca
       go_wp2_with fail
       go_ret3
       have hE:nextE L head=(p,1,[f]):=by simp only[nextE,HB.out,HFT.out,hal,if_true]
       rw[hE]
       exact⟨_,rfl,ownsRow_one _ hB.size,hB.alloc hB.size _⟩
     | false=>
       rw[hal]at ca
       go_wp2_with fail
       obtain⟨M,hM⟩:∃ M:Nat,min 4 (16 - p)=M:=⟨_,rfl⟩
       rw[show min (4:Int) (16 - (p:Int))=(M:Int)from by omega]
       have HE:∀ n,runLen (nextK L f.r.write) p M=n->nextE L head=(p,n,gather (nextK L f.r.write) p n):=fun n hn=>by
        subst hn hM
        simp only[nextE,HB.out,HFT.out,hal,Bool.false_eq_true,if_false]
       obtain⟨K,hK⟩:∃ K,nextK L f.r.write=K:=⟨_,rfl⟩
       rw[hK]at HE
       have HKL:∀ k,(K k).length<=1000000:=fun k=>by rw[<-hK];exact Nat.le_trans (List.length_filter_le _ _) (Nat.le_trans (List.length_filter_le _ _) hlen)
       have HE:=Lib.hid HE
       have HM:=Lib.hid hM
       have HK:=Lib.hid hK
       have HKL:=Lib.hid HKL
       clear hK hM
       go_loopg [12,13] M (fun k out i wr=>∃ j:Nat,k=M - j/\j<=M/\i=.int .i64 j/\wr.ownsRow W1.heap.size 97 1 out (gather K p j).length ((gather K p j).map fun e=>ptr e.p)/\Hid (∀ i,i<j->K (p+i)≠[])/\Below W1.heap.size W1 wr)
       case atStart=>exact ⟨0,by simp,Nat.zero_le _,rfl,World.ownsRow_nil _ _ _ _,fun i hi=>absurd hi (by omega),Below.refl _ _⟩
       case round=>
        obtain⟨j,rfl,hj,rfl,hout,hall,hB2⟩:=hrel
        have hMM:=HM.out
        by_cases hlt:j<M
        ·have hpj:p+j<16:=by omega
         obtain⟨a2,c2,hcp2,hrow2,_⟩:=HP.out.slice (p+j) hpj
         have hlt2:(j:Int)<(M:Int):=by omega
         have hfw:ReqB wr f.p f.r:=(hB2.block f.p (lt_of_heap HRf.out)).trans HRf.out
         have cw2:=hfw.at.c1
         have hcp3:=(hB2.cell (p:=⟨w.heap.size,p+j,none⟩) (lt_of_heap HP.out.arr)).trans hcp2
         have hrow3:=hrow2.kept (row:=none) ⟨hB2.os,hB2.tape,hB2.output,hB2.size,fun i hi _=>hB2.block i hi⟩ (by cases (Value.slice a2 (pageL L (p+j)).length c2).ownBlock <;> simp)
         have HROW3:=Lib.hid hrow3
         clear hfw hrow2 hrow3 hcp2
         go_wp2_with fail
         rw[show (p:Int)+(j:Int)=((p+j:Nat):Int)from by omega]
         refine (kind_any w.heap.size (p+j) (w.heap.size+1) f.r.write _ (pageL L (p+j)) wr hpj hcp3 HROW3.out ?_ ?_).mono ?_
         ·exact Nat.le_trans (List.length_filter_le _ _) hlen
         ·exact fun e he=>(hB2.block e.p (lt_of_heap ((hB.block e.p (lt_of_heap (HR.out e (List.mem_filter.1 he).1))).trans (HR.out e (List.mem_filter.1 he).1)))).trans ((hB.block e.p (lt_of_heap (HR.out e (List.mem_filter.1 he).1))).trans (HR.out e (List.mem_filter.1 he).1))
         rintro e w3 ⟨l,rfl,hl,hB3⟩
         rw[show (pageL L (p+j)).filter (isKind f.r.write)=K (p+j)from by rw[<-HK.out];rfl]at hl
         obtain⟨nl,hnl⟩:∃ nl,(K (p+j)).length=nl:=⟨_,rfl⟩
         obtain⟨xl,hxl⟩:∃ xl,(K (p+j)).map (fun e=>ptr e.p)=xl:=⟨_,rfl⟩
         have hnl6:nl<=1000000:=hnl ▸ HKL.out (p+j)
         rw[hnl,hxl]at hl
         have HNL:=Lib.hid hnl
         have HXL:=Lib.hid hxl
         clear hnl hxl
         have FIN:K (p+j)=[]->∃ v':Value,Ending.returned (Value.tuple #[.int .i64 p,.int .i64 j,u12])=Ending.returned (Value.tuple #[.int .i64 (nextE L head).1,.int .i64 (nextE L head).2.1,v'])/\w3.ownsRow w.heap.size 97 1 v' (nextE L head).2.2.length ((nextE L head).2.2.map fun e=>ptr e.p)/\Below w.heap.size w w3:=fun h0=>by
          rw[HE.out j (runLen_of hall.out hj (.inr h0))]
          refine⟨_,rfl,ownsRow_low (hout.kept (row:=none) ⟨hB3.os,hB3.tape,hB3.output,hB3.size,fun i hi _=>hB3.block i hi⟩ (by cases u12.ownBlock <;> simp)) hB.size,(hB.trans (hB2.mono hB.size)).trans (hB3.mono (Nat.le_trans hB.size hB2.size))⟩
         rcases hl.2 with ⟨rfl,hz⟩ |⟨gl,capl,cur,rfl,hgl1,hgl2,hgl3,hgl4,hgl5,hgl6⟩
         ·subst hz
          go_wp2_with fail
          go_ret3
          exact FIN (List.length_eq_zero_iff.1 HNL.out)
         ·rcases Nat.eq_zero_or_pos nl with hz | hz
          ·subst hz
           go_wp2_with fail
           go_ret3
           exact FIN (List.length_eq_zero_iff.1 HNL.out)
          ·have hzI:¬((nl:Int)=0):=by omega
           obtain⟨no,hno⟩:∃ no,(gather K p j).length=no:=⟨_,rfl⟩
           obtain⟨xo,hxo⟩:∃ xo,(gather K p j).map (fun e=>ptr e.p)=xo:=⟨_,rfl⟩
           have hno6:no<=j*1000000:=hno ▸ gather_len HKL.out p j
           rw[hno,hxo]at hout
           have hout3:=hout.kept (row:=none) ⟨hB3.os,hB3.tape,hB3.output,hB3.size,fun i hi _=>hB3.block i hi⟩ (by cases u12.ownBlock <;> simp)
           have HNO:=Lib.hid hno
           have HXO:=Lib.hid hxo
           have HF:=Lib.hid FIN
           clear hno hxo FIN
           have hnews:∀ j u,xl[j]?=some u->w3.cell? ((⟨gl,0,none⟩:Addr).add j)=some u:=fun j u hu=>World.news_of_block hgl2 j u (by
            rw[<-hgl6,List.getElem?_take]at hu
            split at hu
            ·exact hu
            ·cases hu)
           have hone:∀ u∈xl,u.oneCell'=true:=by
            rw[<-HXL.out]
            intro u hu
            obtain⟨e,_,rfl⟩:=List.mem_map.1 hu
            rfl
           have hxll:xl.length=nl*1:=hl.1
           have HNW:=Lib.hid hnews
           have HON:=Lib.hid hone
           have hsz3:W1.heap.size<=w3.heap.size:=Nat.le_trans hB2.size hB3.size
           clear hnews hone
           go_wp2_with (at_builtin;refine wpList_append_own _ rfl _ _ 90 rfl W1.heap.size 97 i0 (.pointer none) 1 8 Tryx.underlying90 hi hz0 hz1 hz2 rfl (by decide) _ _ _ rfl hout3 ⟨gl,0,none⟩ nl capl xl rfl hxll HNW.out HON.out ?_ ?_ ?_ ?_)
           ·unfold maxLen;omega
           ·omega
           ·exact hsz3
           intro v' w4 hown' hgrow _
           have hB4:Below W1.heap.size W1 w4:=(hB2.trans (hB3.mono hB2.size)).grown hgrow hsz3 (fun k ek=>(hout.lt k ek).1)
           have hown4:w4.ownsRow W1.heap.size 97 1 v' (gather K p (j+1)).length ((gather K p (j+1)).map fun e=>ptr e.p):=by
            rw[gather_succ,List.length_append,List.map_append,HNO.out,HNL.out,HXO.out,HXL.out];exact hown'
           have HO4:=Lib.hid hown4
           clear hown' hgrow hown4 hout hout3
           go_wp2
           go_roundg (M - (j+1))
           case measure=>omega
           case rel=>exact ⟨j+1,rfl,by omega,by go_num,HO4.out,fun i hi=>by
            rcases Nat.lt_or_ge i j with h | h
            ·exact hall.out i h
            ·rw[show i=j from by omega]
             intro h0
             have:=HNL.out
             rw[h0]at this
             simp at this;omega,hB4⟩
        ·have hjM:j=M:=by omega
         subst hjM
         go_wp2_with fail
         go_ret3
         rw[HE.out j (runLen_of hall.out hj (.inl rfl))]
         exact⟨_,rfl,ownsRow_low hout hB.size,(hB.trans (hB2.mono hB.size))⟩
end
section
open Go.RowKit Go.Extern.Stop Go.Stop Go.Extern
set_option maxRecDepth 100000
abbrev errK(k:Int):Value:=.iface 37 (.int .i64 k)
abbrev errR(p:Nat):Value:=.iface 172 (.pointer (some ⟨p,0,none⟩))
theorem Tryz.cfTypeOfK(k:Int)(w:World):(callFunc 99 #[errK k]).run Tryx.prog w=.ok (.value (.iface 205 (.agg #[.pointer (some ⟨1,37,none⟩)]))) w:=by kernel_rfl
theorem Tryz.cfComparable(w:World):(callFunc 187 #[.agg #[.pointer (some ⟨1,37,none⟩)]]).run Tryx.prog w=.ok (.value (.bool true)) w:=by kernel_rfl
theorem Tryz.noIsK(v:Value)(xT:TypeId)(w:World):(Instr.typeAssert (.iface 37 v) xT 207 true).run Tryx.prog w=.ok (.tuple #[.nilIface,.bool false]) w:=
 run_typeAssert_lacksB Tryx.underlying207 (by kernel_rfl) (by kernel_rfl) v xT w
theorem Tryz.noUnK(v:Value)(xT:TypeId)(w:World):(Instr.typeAssert (.iface 37 v) xT 210 true).run Tryx.prog w=.ok (.tuple #[.nilIface,.bool false]) w:=
 run_typeAssert_lacksB Tryx.underlying210 (by kernel_rfl) (by kernel_rfl) v xT w
theorem Tryz.noUnsK(v:Value)(xT:TypeId)(w:World):(Instr.typeAssert (.iface 37 v) xT 212 true).run Tryx.prog w=.ok (.tuple #[.nilIface,.bool false]) w:=
 run_typeAssert_lacksB Tryx.underlying212 (by kernel_rfl) (by kernel_rfl) v xT w
theorem Tryz.noIsR(v:Value)(xT:TypeId)(w:World):(Instr.typeAssert (.iface 172 v) xT 207 true).run Tryx.prog w=.ok (.tuple #[.nilIface,.bool false]) w:=
 run_typeAssert_lacksB Tryx.underlying207 (by kernel_rfl) (by kernel_rfl) v xT w
theorem Tryz.unR(v:Value)(xT:TypeId)(w:World):(Instr.typeAssert (.iface 172 v) xT 210 true).run Tryx.prog w=.ok (.tuple #[.iface 172 v,.bool true]) w:=
 run_typeAssert_hasB Tryx.underlying210 (by kernel_rfl) v xT w
theorem Tryz.eqNilK(i:Int)(w:World):(binOp BinOp.eql 81 .nilIface (errK i)).run Tryx.prog w=.ok (.bool false) w:=by kernel_rfl
theorem Tryz.eqKK(k i:Int)(w:World):(binOp BinOp.eql 81 (errK k) (errK i)).run Tryx.prog w=.ok (.bool (k == i)) w:=by kernel_rfl
theorem Tryz.eqRK(p:Nat)(i:Int)(w:World):(binOp BinOp.eql 81 (errR p) (errK i)).run Tryx.prog w=.ok (.bool false) w:=by kernel_rfl
theorem is_nil(i:Int)(w:World):Calls Tryx.prog 62 #[.nilIface,errK i] w fun e w'=>e=.returned (.bool false)/\w=w':=by
 have q1:=Tryz.eqNilK
 go_enter Tryx.func62,Tryz.ntmps62
 go_wp2
 go_ret
 exact⟨rfl,rfl⟩
theorem is1_kind(k i:Int)(w:World):Calls Tryx.prog 100 #[errK k,errK i,.bool true] w fun e w'=>e=.returned (.bool (k == i))/\w=w':=by
 have n1:=Tryz.noIsK
 have n2:=Tryz.noUnK
 have n3:=Tryz.noUnsK
 have n4:=Tryz.eqKK
 by_cases h:k=i
 ·subst h
  go_enter Tryx.func100,Tryz.ntmps100
  go_wp2
  refine wp_loop_rounds 1 ?_
  rw[rounds_succ]
  go_wp2
  go_ret
  exact⟨by simp,rfl⟩
 ·have h':(k == i)=false:=by simpa using h
  go_enter Tryx.func100,Tryz.ntmps100
  go_wp2
  refine wp_loop_rounds 1 ?_
  rw[rounds_succ]
  go_wp2
  go_ret
  exact⟨by simp[h'],rfl⟩
theorem is_kind(k i:Int)(w:World):Calls Tryx.prog 62 #[errK k,errK i] w fun e w'=>e=.returned (.bool (k == i))/\w=w':=by
 have tO:=Tryz.cfTypeOfK
 have tC:=Tryz.cfComparable
 go_enter Tryx.func62,Tryz.ntmps62
 go_wp2_with (go_at_call 100;refine (is1_kind _ _ _).mono ?_;rintro e w' ⟨rfl,rfl⟩)
 go_ret
 exact⟨rfl,rfl⟩
structure ReqErr(w:World)(p:Nat)(r t k:Int):Prop where
 c0:w.cell? ⟨p,0,none⟩=some (.int .i64 r)
 c1:w.cell? ⟨p,1,none⟩=some (.int .i64 t)
 c2:w.cell? ⟨p,2,none⟩=some (.int .i64 k)
theorem unwrap_req(p:Nat)(r t k:Int)(w:World)(h:ReqErr w p r t k):Calls Tryx.prog 181 #[.pointer (some ⟨p,0,none⟩)] w fun e w'=>e=.returned (errK k)/\w=w':=by
 obtain⟨_,_,c2⟩:=h
 go_enter Tryx.func181,Tryz.ntmps181
 go_wp2
 go_ret
 exact⟨rfl,rfl⟩
theorem is1_req(p:Nat)(r t k i:Int)(w:World)(h:ReqErr w p r t k):Calls Tryx.prog 100 #[errR p,errK i,.bool true] w fun e w'=>e=.returned (.bool (k == i))/\w=w':=by
 have n1:=Tryz.noIsK
 have n2:=Tryz.noUnK
 have n3:=Tryz.noUnsK
 have n4:=Tryz.eqKK
 have n5:=Tryz.noIsR
 have n6:=Tryz.unR
 have n7:=Tryz.eqRK
 have hU:=unwrap_req p r t k w h
 clear h
 by_cases h:k=i
 ·subst h
  go_enter Tryx.func100,Tryz.ntmps100
  go_wp2
  refine wp_loop_rounds 2 ?_
  rw[rounds_succ]
  go_wp2_with (go_at_call 181;refine hU.mono ?_;rintro e w' ⟨rfl,rfl⟩)
  rw[rounds_succ]
  go_wp2
  go_ret
  exact⟨by simp,rfl⟩
 ·have h':(k == i)=false:=by simpa using h
  go_enter Tryx.func100,Tryz.ntmps100
  go_wp2
  refine wp_loop_rounds 2 ?_
  rw[rounds_succ]
  go_wp2_with (go_at_call 181;refine hU.mono ?_;rintro e w' ⟨rfl,rfl⟩)
  rw[rounds_succ]
  go_wp2
  go_ret
  exact⟨by simp[h'],rfl⟩
theorem is_req(p:Nat)(r t k i:Int)(w:World)(h:ReqErr w p r t k):Calls Tryx.prog 62 #[errR p,errK i] w fun e w'=>e=.returned (.bool (k == i))/\w=w':=by
 have tO:=Tryz.cfTypeOfK
 have tC:=Tryz.cfComparable
 go_enter Tryx.func62,Tryz.ntmps62
 go_wp2_with (go_at_call 100;refine (is1_req _ _ _ _ _ _ h).mono ?_;rintro e w' ⟨rfl,rfl⟩)
 go_ret
 exact⟨rfl,rfl⟩
end
section
open Go.RowKit Go.Extern.Stop Go.Stop Go.Extern
abbrev hdl(t:Nat):Value:=.pointer (some ⟨1,t,none⟩)
abbrev rty(t:Nat):Value:=.iface 205 (.agg #[hdl t])
abbrev ErrVar(w:World):Prop:=w.cell? ⟨0,0,none⟩=some (rty 81)
abbrev rval(t:Nat)(a:Addr)(f:Int):Value:=.agg #[hdl t,.pointer (some a),.int .u64 f]
theorem Tryz.voPP(t:Addr)(w:World):(callFunc 114 #[.iface 174 (.pointer (some t))]).run Tryx.prog w=.ok (.value (rval 174 ⟨w.heap.size,0,none⟩ 150)) (w.alloc (.cells #[.pointer (some t)] 174)):=by kernel_rfl
theorem Tryz.voPK(t:Addr)(w:World):(callFunc 114 #[.iface 177 (.pointer (some t))]).run Tryx.prog w=.ok (.value (rval 177 ⟨w.heap.size,0,none⟩ 150)) (w.alloc (.cells #[.pointer (some t)] 177)):=by kernel_rfl
theorem Tryz.voR(p:Nat)(w:World):(callFunc 114 #[errR p]).run Tryx.prog w=.ok (.value (rval 172 ⟨w.heap.size,0,none⟩ 150)) (w.alloc (.cells #[.pointer (some ⟨p,0,none⟩)] 172)):=by kernel_rfl
theorem Tryz.voK(k:Int)(w:World):(callFunc 114 #[errK k]).run Tryx.prog w=.ok (.value (rval 37 ⟨w.heap.size,0,none⟩ 130)) (w.alloc (.cells #[.int .i64 k] 37)):=by kernel_rfl
theorem Tryz.tyPP(a:Addr)(w:World):(callFunc 115 #[rval 174 a 150]).run Tryx.prog w=.ok (.value (rty 174)) w:=by kernel_rfl
theorem Tryz.tyPK(a:Addr)(w:World):(callFunc 115 #[rval 177 a 150]).run Tryx.prog w=.ok (.value (rty 177)) w:=by kernel_rfl
theorem Tryz.kdPP(w:World):(callFunc 176 #[hdl 174]).run Tryx.prog w=.ok (.value (.int .u8 22)) w:=by kernel_rfl
theorem Tryz.kdPK(w:World):(callFunc 176 #[hdl 177]).run Tryx.prog w=.ok (.value (.int .u8 22)) w:=by kernel_rfl
theorem Tryz.kdR(w:World):(callFunc 176 #[hdl 172]).run Tryx.prog w=.ok (.value (.int .u8 22)) w:=by kernel_rfl
theorem Tryz.kdK(w:World):(callFunc 176 #[hdl 37]).run Tryx.prog w=.ok (.value (.int .u8 2)) w:=by kernel_rfl
theorem Tryz.elPP(w:World):(callFunc 188 #[.agg #[hdl 174]]).run Tryx.prog w=.ok (.value (rty 172)) w:=by kernel_rfl
theorem Tryz.elPK(w:World):(callFunc 188 #[.agg #[hdl 177]]).run Tryx.prog w=.ok (.value (rty 37)) w:=by kernel_rfl
theorem Tryz.imR(w:World):(callFunc 189 #[.agg #[hdl 172],rty 81]).run Tryx.prog w=.ok (.value (.bool true)) w:=by kernel_rfl
theorem Tryz.imK(w:World):(callFunc 189 #[.agg #[hdl 37],rty 81]).run Tryx.prog w=.ok (.value (.bool true)) w:=by kernel_rfl
theorem Tryz.toR(p:Nat)(w:World):(callFunc 99 #[errR p]).run Tryx.prog w=.ok (.value (rty 172)) w:=by kernel_rfl
theorem Tryz.asRR(w:World):(callFunc 186 #[.agg #[hdl 172],rty 172]).run Tryx.prog w=.ok (.value (.bool true)) w:=by kernel_rfl
theorem Tryz.asKK(w:World):(callFunc 186 #[.agg #[hdl 37],rty 37]).run Tryx.prog w=.ok (.value (.bool true)) w:=by kernel_rfl
theorem Tryz.asKR(w:World):(callFunc 186 #[.agg #[hdl 37],rty 172]).run Tryx.prog w=.ok (.value (.bool false)) w:=by kernel_rfl
theorem Tryz.noAsK(v:Value)(xT:TypeId)(w:World):(Instr.typeAssert (.iface 37 v) xT 224 true).run Tryx.prog w=.ok (.tuple #[.nilIface,.bool false]) w:=
 run_typeAssert_lacksB Tryx.underlying224 (by kernel_rfl) (by kernel_rfl) v xT w
theorem rlm(z:Sem Value)(f:TypeId->Addr->Nat->Nat->Sem Value)(v:Value):
  ReflectliteValue.method z f #[v]=(do match <-ReflectliteValue.parts v with | none=>z | some (t,a,fl)=>f t a fl (fl % 32)):=rfl
theorem Tryz.partsPP(a:Addr)(w:World):(ReflectliteValue.parts (rval 174 a 150)).run Tryx.prog w=.ok (some (174,a,150)) w:=by kernel_rfl
theorem Tryz.partsPK(a:Addr)(w:World):(ReflectliteValue.parts (rval 177 a 150)).run Tryx.prog w=.ok (some (177,a,150)) w:=by kernel_rfl
theorem Tryz.inPP(a p:Addr)(W:World)(ha:W.cell? a=some (.pointer (some p))):
  (callFunc 116 #[rval 174 a 150]).run Tryx.prog W=.ok (.value (.bool false)) W:=by
 rw[@run_callFunc_extern Tryx.prog 116 _ (ReflectliteValue.method (ReflectliteValue.valueError "reflectlite.Value.IsNil" 0) ReflectliteValue.isNil) Tryx.func116 (by kernel_rfl) (by kernel_rfl) (by kernel_rfl) (by kernel_rfl)]
 rw[rlm]
 simp only[Sem.run_bind,Tryz.partsPP,Result.andThen]
 simp[ReflectliteValue.isNil,loadVar,isAgg,underlying,Tryx.underlying174,ha,Result.andThen]
theorem Tryz.inPK(a p:Addr)(W:World)(ha:W.cell? a=some (.pointer (some p))):
  (callFunc 116 #[rval 177 a 150]).run Tryx.prog W=.ok (.value (.bool false)) W:=by
 rw[@run_callFunc_extern Tryx.prog 116 _ (ReflectliteValue.method (ReflectliteValue.valueError "reflectlite.Value.IsNil" 0) ReflectliteValue.isNil) Tryx.func116 (by kernel_rfl) (by kernel_rfl) (by kernel_rfl) (by kernel_rfl)]
 rw[rlm]
 simp only[Sem.run_bind,Tryz.partsPK,Result.andThen]
 simp[ReflectliteValue.isNil,loadVar,isAgg,underlying,Tryx.underlying177,ha,Result.andThen]
theorem Tryz.eoPP(w:World):(Rtype.elem? 174).run Tryx.prog w=.ok (some 172) w:=by kernel_rfl
theorem Tryz.eoPK(w:World):(Rtype.elem? 177).run Tryx.prog w=.ok (some 37) w:=by kernel_rfl
theorem Tryz.mkR(p:Addr)(w:World):(ReflectliteValue.mk 172 p ReflectliteValue.flagAddr).run Tryx.prog w=.ok (rval 172 p 406) w:=by kernel_rfl
theorem Tryz.mkK(p:Addr)(w:World):(ReflectliteValue.mk 37 p ReflectliteValue.flagAddr).run Tryx.prog w=.ok (rval 37 p 386) w:=by kernel_rfl
theorem Tryz.evPP(a p:Addr)(W:World)(ha:W.cell? a=some (.pointer (some p))):
  (callFunc 127 #[rval 174 a 150]).run Tryx.prog W=.ok (.value (rval 172 p 406)) W:=by
 rw[@run_callFunc_extern Tryx.prog 127 _ (ReflectliteValue.method (ReflectliteValue.valueError "reflectlite.Value.Elem" 0) ReflectliteValue.elem) Tryx.func127 (by kernel_rfl) (by kernel_rfl) (by kernel_rfl) (by kernel_rfl)]
 rw[rlm]
 simp only[Sem.run_bind,Tryz.partsPP,Result.andThen]
 simp[ReflectliteValue.elem,loadVar,isAgg,underlying,Tryx.underlying174,ha,Result.andThen,Tryz.eoPP,Tryz.mkR]
theorem Tryz.evPK(a p:Addr)(W:World)(ha:W.cell? a=some (.pointer (some p))):
  (callFunc 127 #[rval 177 a 150]).run Tryx.prog W=.ok (.value (rval 37 p 386)) W:=by
 rw[@run_callFunc_extern Tryx.prog 127 _ (ReflectliteValue.method (ReflectliteValue.valueError "reflectlite.Value.Elem" 0) ReflectliteValue.elem) Tryx.func127 (by kernel_rfl) (by kernel_rfl) (by kernel_rfl) (by kernel_rfl)]
 rw[rlm]
 simp only[Sem.run_bind,Tryz.partsPK,Result.andThen]
 simp[ReflectliteValue.elem,loadVar,isAgg,underlying,Tryx.underlying177,ha,Result.andThen,Tryz.eoPK,Tryz.mkK]
theorem rls(v x:Value):ReflectliteValue.set #[v,x]=(do
  let (some (dst,a,fl),some (src,b,_)):=(<-ReflectliteValue.parts v,<-ReflectliteValue.parts x)
   | unsupported (.noEntry "extern/(internal/reflectlite.Value).Set.zeroValue")
  if fl / ReflectliteValue.flagAddr % 2 == 0 then unsupported (.noEntry "extern/(internal/reflectlite.Value).Set.unaddressable")
  let val <-loadVar src b
  if <-Rtype.directlyAssignable dst src then storeVar dst a val
  else if <-Rtype.implements dst src then
   if (<-Rtype.kind src) == 20 then
    match val with
    | .nilIface=>unsupported (.noEntry "extern/reflectlite: a nil value of one interface type handed on as a value of another")
    | _=>storeVar dst a val
   else storeVar dst a (.iface src val)
  else panicString ("reflectlite.Set: value of type " ++ (<-Rtype.spelt src) ++ " is not assignable to type " ++ (<-Rtype.spelt dst))
  pure (.tuple #[])):=rfl
theorem Tryz.partsRa(a:Addr)(w:World):(ReflectliteValue.parts (rval 172 a 406)).run Tryx.prog w=.ok (some (172,a,406)) w:=by kernel_rfl
theorem Tryz.partsR(a:Addr)(w:World):(ReflectliteValue.parts (rval 172 a 150)).run Tryx.prog w=.ok (some (172,a,150)) w:=by kernel_rfl
theorem Tryz.partsKa(a:Addr)(w:World):(ReflectliteValue.parts (rval 37 a 386)).run Tryx.prog w=.ok (some (37,a,386)) w:=by kernel_rfl
theorem Tryz.partsK(a:Addr)(w:World):(ReflectliteValue.parts (rval 37 a 130)).run Tryx.prog w=.ok (some (37,a,130)) w:=by kernel_rfl
theorem Tryz.direct56(w:World):(Rtype.directlyAssignable 172 172).run Tryx.prog w=.ok true w:=by kernel_rfl
theorem Tryz.direct22(w:World):(Rtype.directlyAssignable 37 37).run Tryx.prog w=.ok true w:=by kernel_rfl
theorem Tryz.setR(ta b:Addr)(e:Nat)(old:Value)(W:World)(hb:W.cell? b=some (.pointer (some ⟨e,0,none⟩)))(ht:W.cell? ta=some old)(hf:W.frozen? ta=false):
  (callFunc 128 #[rval 172 ta 406,rval 172 b 150]).run Tryx.prog W=.ok (.value (.tuple #[])) (W.setCell ta (.pointer (some ⟨e,0,none⟩))):=by
 rw[@run_callFunc_extern Tryx.prog 128 _ ReflectliteValue.set Tryx.func128 (by kernel_rfl) (by kernel_rfl) (by kernel_rfl) (by kernel_rfl)]
 rw[rls]
 simp only[Sem.run_bind,Tryz.partsRa,Tryz.partsR,Result.andThen]
 simp[ReflectliteValue.flagAddr,loadVar,isAgg,underlying,Tryx.underlying172,hb,Result.andThen,Tryz.direct56,storeVar,Value.cells,storeCells,Addr.add]
 rw[run_store Tryx.prog W ta _ _ (by rfl)]
 simp[ht,hf]
theorem Tryz.setK(ta b:Addr)(k:Int)(old:Value)(W:World)(hb:W.cell? b=some (.int .i64 k))(ht:W.cell? ta=some old)(hf:W.frozen? ta=false):
  (callFunc 128 #[rval 37 ta 386,rval 37 b 130]).run Tryx.prog W=.ok (.value (.tuple #[])) (W.setCell ta (.int .i64 k)):=by
 rw[@run_callFunc_extern Tryx.prog 128 _ ReflectliteValue.set Tryx.func128 (by kernel_rfl) (by kernel_rfl) (by kernel_rfl) (by kernel_rfl)]
 rw[rls]
 simp only[Sem.run_bind,Tryz.partsKa,Tryz.partsK,Result.andThen]
 simp[ReflectliteValue.flagAddr,loadVar,isAgg,underlying,Tryx.underlying37,hb,Result.andThen,Tryz.direct22,storeVar,Value.cells,storeCells,Addr.add]
 rw[run_store Tryx.prog W ta _ _ (by rfl)]
 simp[ht,hf]
end
section
open Go.RowKit Go.Extern.Stop Go.Stop Go.Extern
set_option maxRecDepth 100000
set_option maxHeartbeats 8000000
theorem lt_of_cellE{w:World}{a:Addr}{v:Value}(h:w.cell? a=some v):a.block<w.heap.size:=by
 rcases Nat.lt_or_ge a.block w.heap.size with h' | h'
 ·exact h'
 ·simp[World.cell?,Array.getElem?_eq_none h']at h
theorem as1_hitR(p:Nat)(t a:Addr)(old:Value)(w:World)(ha:w.cell? a=some (.pointer (some t)))(ht:w.cell? t=some old)(hf:w.frozen? t=false):
  Calls Tryx.prog 117 #[errR p,.iface 174 (.pointer (some t)),rval 174 a 150,rty 172] w fun e w'=>e=.returned (.bool true)/\
   w'=((w.alloc (.cells #[hdl 174,.pointer (some a),.int .u64 150] 197)).alloc (.cells #[.pointer (some ⟨p,0,none⟩)] 172)).setCell t (.pointer (some ⟨p,0,none⟩)):=by
 have hla:=lt_of_cellE ha
 have hlt:=lt_of_cellE ht
 have c1:=Tryz.toR p
 have c2:=Tryz.asRR
 have c3:=Tryz.evPP a t (w.alloc (.cells #[hdl 174,.pointer (some a),.int .u64 150] 197)) (by rw[World.cell?_alloc_lt _ _ _ hla];exact ha)
 have c4:=Tryz.voR p
 have c5:=Tryz.setR t ⟨w.heap.size+1,0,none⟩ p old ((w.alloc (.cells #[hdl 174,.pointer (some a),.int .u64 150] 197)).alloc (.cells #[.pointer (some ⟨p,0,none⟩)] 172)) (by rw[World.cell?_alloc_at _ _ _ _ (by simp)];rfl)
  (by rw[World.cell?_alloc_lt _ _ t (by simp;omega),World.cell?_alloc_lt _ _ t hlt];exact ht) (by rw[World.frozen?_alloc_old _ _ t (by simp;omega),World.frozen?_alloc_old _ _ t (by omega)];exact hf)
 clear ha ht hf hla hlt
 go_enter Tryx.func117,Tryz.ntmps117
 go_wp2
 refine wp_loop_rounds 1 ?_
 rw[rounds_succ]
 go_wp2
 go_ret
 exact⟨rfl,rfl⟩
theorem as1_hitK(k:Int)(t a:Addr)(old:Value)(w:World)(ha:w.cell? a=some (.pointer (some t)))(ht:w.cell? t=some old)(hf:w.frozen? t=false):
  Calls Tryx.prog 117 #[errK k,.iface 177 (.pointer (some t)),rval 177 a 150,rty 37] w fun e w'=>e=.returned (.bool true)/\
   w'=((w.alloc (.cells #[hdl 177,.pointer (some a),.int .u64 150] 197)).alloc (.cells #[.int .i64 k] 37)).setCell t (.int .i64 k):=by
 have hla:=lt_of_cellE ha
 have hlt:=lt_of_cellE ht
 have c1:=Tryz.cfTypeOfK k
 have c2:=Tryz.asKK
 have c3:=Tryz.evPK a t (w.alloc (.cells #[hdl 177,.pointer (some a),.int .u64 150] 197)) (by rw[World.cell?_alloc_lt _ _ _ hla];exact ha)
 have c4:=Tryz.voK k
 have c5:=Tryz.setK t ⟨w.heap.size+1,0,none⟩ k old ((w.alloc (.cells #[hdl 177,.pointer (some a),.int .u64 150] 197)).alloc (.cells #[.int .i64 k] 37)) (by rw[World.cell?_alloc_at _ _ _ _ (by simp)];rfl)
  (by rw[World.cell?_alloc_lt _ _ t (by simp;omega),World.cell?_alloc_lt _ _ t hlt];exact ht) (by rw[World.frozen?_alloc_old _ _ t (by simp;omega),World.frozen?_alloc_old _ _ t (by omega)];exact hf)
 clear ha ht hf hla hlt
 go_enter Tryx.func117,Tryz.ntmps117
 go_wp2
 refine wp_loop_rounds 1 ?_
 rw[rounds_succ]
 go_wp2
 go_ret
 exact⟨rfl,rfl⟩
theorem as1_missK(k:Int)(t a:Addr)(w:World):
  Calls Tryx.prog 117 #[errK k,.iface 174 (.pointer (some t)),rval 174 a 150,rty 172] w fun e w'=>e=.returned (.bool false)/\
   w'=w.alloc (.cells #[hdl 174,.pointer (some a),.int .u64 150] 197):=by
 have c1:=Tryz.cfTypeOfK k
 have c2:=Tryz.asKR
 have c3:=Tryz.noAsK
 have c4:=Tryz.noUnK
 have c5:=Tryz.noUnsK
 go_enter Tryx.func117,Tryz.ntmps117
 go_wp2
 refine wp_loop_rounds 1 ?_
 rw[rounds_succ]
 go_wp2
 go_ret
 exact⟨rfl,rfl⟩
theorem as_nil(t:Value)(w:World):Calls Tryx.prog 98 #[.nilIface,t] w fun e w'=>e=.returned (.bool false)/\w=w':=by
 go_enter Tryx.func98,Tryz.ntmps98
 go_wp2
 go_ret
 exact⟨rfl,rfl⟩
abbrev asW(w:World)(t:Nat)(b:Nat):World:=(w.alloc (.cells #[.pointer (some ⟨t,0,none⟩)] b)).alloc (.cells #[hdl b,.pointer (some ⟨w.heap.size,0,none⟩),.int .u64 150] 197)
theorem ErrVar.alloc{w:World}(h:ErrVar w)(o:Obj):ErrVar (w.alloc o):=by
 have:=lt_of_cellE h
 unfold ErrVar
 rw[World.cell?_alloc_lt _ _ _ this];exact h
theorem as_hitR(p t:Nat)(old:Value)(w:World)(hg:ErrVar w)(ht:w.cell? ⟨t,0,none⟩=some old)(hf:w.frozen? ⟨t,0,none⟩=false):
  Calls Tryx.prog 98 #[errR p,.iface 174 (.pointer (some ⟨t,0,none⟩))] w fun e w'=>e=.returned (.bool true)/\
   ∃ o1 o2 o3 o4,w'=((((w.alloc o1).alloc o2).alloc o3).alloc o4).setCell ⟨t,0,none⟩ (.pointer (some ⟨p,0,none⟩)):=by
 have hlt:=lt_of_cellE ht
 have h0:=lt_of_cellE hg
 have hg1:ErrVar (asW w t 174):=(hg.alloc _).alloc _
 have ht1:(asW w t 174).cell? ⟨t,0,none⟩=some old:=by
  rw[World.cell?_alloc_lt _ _ _ (by simp;exact Nat.lt_succ_of_lt hlt),World.cell?_alloc_lt _ _ _ hlt];exact ht
 have hf1:(asW w t 174).frozen? ⟨t,0,none⟩=false:=by
  have:t<w.heap.size:=hlt
  rw[World.frozen?_alloc_old _ _ _ (by simp;omega),World.frozen?_alloc_old _ _ _ (by show t≠_;omega)];exact hf
 have ha1:(asW w t 174).cell? ⟨w.heap.size,0,none⟩=some (.pointer (some ⟨t,0,none⟩)):=by simp
 have hc:=as1_hitR p ⟨t,0,none⟩ ⟨w.heap.size,0,none⟩ old _ ha1 ht1 hf1
 have c1:=Tryz.voPP ⟨t,0,none⟩
 have c2:=Tryz.tyPP
 have c3:=Tryz.kdPP
 have c4:=Tryz.inPP ⟨w.heap.size,0,none⟩ ⟨t,0,none⟩ _ ha1
 have c5:=Tryz.elPP
 have c6:=Tryz.kdR
 have c7:=Tryz.imR
 clear ht1 hf1 ha1 hg ht hf hlt h0
 unfold ErrVar at hg1
 have HC:=Lib.hid hc
 clear hc
 go_enter Tryx.func98,Tryz.ntmps98
 go_wp2_with (go_at_call 117;refine HC.out.mono ?_;rintro e w' ⟨rfl,rfl⟩)
 go_ret
 exact⟨rfl,_,_,_,_,rfl⟩
theorem as_hitK(k:Int)(t:Nat)(old:Value)(w:World)(hg:ErrVar w)(ht:w.cell? ⟨t,0,none⟩=some old)(hf:w.frozen? ⟨t,0,none⟩=false):
  Calls Tryx.prog 98 #[errK k,.iface 177 (.pointer (some ⟨t,0,none⟩))] w fun e w'=>e=.returned (.bool true)/\
   ∃ o1 o2 o3 o4,w'=((((w.alloc o1).alloc o2).alloc o3).alloc o4).setCell ⟨t,0,none⟩ (.int .i64 k):=by
 have hlt:=lt_of_cellE ht
 have h0:=lt_of_cellE hg
 have hg1:ErrVar (asW w t 177):=(hg.alloc _).alloc _
 have ht1:(asW w t 177).cell? ⟨t,0,none⟩=some old:=by
  rw[World.cell?_alloc_lt _ _ _ (by simp;exact Nat.lt_succ_of_lt hlt),World.cell?_alloc_lt _ _ _ hlt];exact ht
 have hf1:(asW w t 177).frozen? ⟨t,0,none⟩=false:=by
  have:t<w.heap.size:=hlt
  rw[World.frozen?_alloc_old _ _ _ (by simp;omega),World.frozen?_alloc_old _ _ _ (by show t≠_;omega)];exact hf
 have ha1:(asW w t 177).cell? ⟨w.heap.size,0,none⟩=some (.pointer (some ⟨t,0,none⟩)):=by simp
 have hc:=as1_hitK k ⟨t,0,none⟩ ⟨w.heap.size,0,none⟩ old _ ha1 ht1 hf1
 have c1:=Tryz.voPK ⟨t,0,none⟩
 have c2:=Tryz.tyPK
 have c3:=Tryz.kdPK
 have c4:=Tryz.inPK ⟨w.heap.size,0,none⟩ ⟨t,0,none⟩ _ ha1
 have c5:=Tryz.elPK
 have c6:=Tryz.kdK
 have c7:=Tryz.imK
 clear ht1 hf1 ha1 hg ht hf hlt h0
 unfold ErrVar at hg1
 have HC:=Lib.hid hc
 clear hc
 go_enter Tryx.func98,Tryz.ntmps98
 go_wp2_with (go_at_call 117;refine HC.out.mono ?_;rintro e w' ⟨rfl,rfl⟩)
 go_ret
 exact⟨rfl,_,_,_,_,rfl⟩
theorem as_missK(k:Int)(t:Nat)(w:World)(hg:ErrVar w):
  Calls Tryx.prog 98 #[errK k,.iface 174 (.pointer (some ⟨t,0,none⟩))] w fun e w'=>e=.returned (.bool false)/\
   ∃ o1 o2 o3,w'=(((w.alloc o1).alloc o2).alloc o3):=by
 have hg1:ErrVar (asW w t 174):=(hg.alloc _).alloc _
 have ha1:(asW w t 174).cell? ⟨w.heap.size,0,none⟩=some (.pointer (some ⟨t,0,none⟩)):=by simp
 have hc:=as1_missK k ⟨t,0,none⟩ ⟨w.heap.size,0,none⟩ (asW w t 174)
 have c1:=Tryz.voPP ⟨t,0,none⟩
 have c2:=Tryz.tyPP
 have c3:=Tryz.kdPP
 have c4:=Tryz.inPP ⟨w.heap.size,0,none⟩ ⟨t,0,none⟩ _ ha1
 have c5:=Tryz.elPP
 have c6:=Tryz.kdR
 have c7:=Tryz.imR
 clear ha1 hg
 unfold ErrVar at hg1
 have HC:=Lib.hid hc
 clear hc
 go_enter Tryx.func98,Tryz.ntmps98
 go_wp2_with (go_at_call 117;refine HC.out.mono ?_;rintro e w' ⟨rfl,rfl⟩)
 go_ret
 exact⟨rfl,_,_,_,rfl⟩
theorem ErrVar.chg{S:Nat->Prop}{w w':World}(h:ErrVar w)(hc:Chg S w w')(h0:¬S 0):ErrVar w':=(hc.cell (p:=⟨0,0,none⟩) (lt_of_cell h) h0).trans h
theorem ReqErr.lt{w:World}{p:Nat}{r t k:Int}(h:ReqErr w p r t k):p<w.heap.size:=lt_of_cell h.c0
theorem ReqErr.chg{S:Nat->Prop}{w w':World}{p:Nat}{r t k:Int}(h:ReqErr w p r t k)(hc:Chg S w w')(hp:¬S p):ReqErr w' p r t k:=
 ⟨(hc.cell (p:=⟨p,0,none⟩) h.lt hp).trans h.c0,(hc.cell (p:=⟨p,1,none⟩) h.lt hp).trans h.c1,(hc.cell (p:=⟨p,2,none⟩) h.lt hp).trans h.c2⟩
theorem apiTold_nil(w:World):Calls Tryx.prog 61 #[.nilIface] w fun e w'=>e=.returned (.tuple #[.int .i64 0,.int .i64 (-1),.int .i64 0])/\Below w.heap.size w w':=by
 go_enter Tryx.func61,Tryz.ntmps61
 go_wp2_with (go_at_call 98;refine (as_nil _ _).mono ?_;rintro e w' ⟨rfl,rfl⟩)
 go_ret3
 exact⟨rfl,by go_grown⟩
theorem apiTold_K(k:Int)(w:World)(hg:ErrVar w):Calls Tryx.prog 61 #[errK k] w fun e w'=>e=.returned (.tuple #[.int .i64 k,.int .i64 (-1),.int .i64 0])/\Below w.heap.size w w':=by
 have h1:=as_missK k w.heap.size (w.alloc (.cells #[.pointer none] 172)) (hg.alloc _)
 have H1:=Lib.hid h1
 have H2:=Lib.hid hg
 have h0:0<w.heap.size:=lt_of_cell hg
 clear h1 hg
 go_enter Tryx.func61,Tryz.ntmps61
 go_wp2_with fail
 refine H1.out.mono ?_
 rintro e w' ⟨rfl,o1,o2,o3,rfl⟩
 go_wp2_with fail
 refine (as_hitK k (w.heap.size+1+1+1+1) (.int .i64 0) _ ?_ ?_ ?_).mono ?_
 ·exact ((((H2.out.alloc _).alloc _).alloc _).alloc _).alloc _
 ·exact cell_new (by simp)
 ·exact free_new (by simp)
 rintro e w' ⟨rfl,o4,o5,o6,o7,rfl⟩
 go_wp2
 go_ret3
 exact⟨rfl,by go_grown⟩
theorem apiTold_R(p:Nat)(r t k:Int)(w:World)(hg:ErrVar w)(hp:ReqErr w p r t k):Calls Tryx.prog 61 #[errR p] w fun e w'=>e=.returned (.tuple #[.int .i64 k,.int .i64 r,.int .i64 t])/\Below w.heap.size w w':=by
 have hlt:=hp.lt
 have h1:=as_hitR p w.heap.size (.pointer none) (w.alloc (.cells #[.pointer none] 172)) (hg.alloc _) (by simp) (by simp)
 have H1:=Lib.hid h1
 have H2:=Lib.hid hp
 clear h1 hp
 go_enter Tryx.func61,Tryz.ntmps61
 go_wp2_with fail
 refine H1.out.mono ?_
 rintro e w' ⟨rfl,o1,o2,o3,o4,hw⟩
 have hb:Below w.heap.size w w':=by subst hw;go_grown
 have hr:=H2.out.chg (chgB hb (fun _=>False)) (fun h=>h)
 have hc:w'.cell? ⟨w.heap.size,0,none⟩=some (.pointer (some ⟨p,0,none⟩)):=by subst hw;exact World.cell?_setCell_same' _ _ _ (by simp[go_sem])
 clear hw H1 H2
 obtain⟨c0,c1,c2⟩:=hr
 go_wp2
 go_region
 go_wp2
 go_ret3
 exact⟨rfl,hb.drew⟩
abbrev plErr(k r t:Int):Value:=.agg #[.int .i64 k,.int .i64 r,.int .i64 t,.bool true]
theorem told_of(err:Value)(k r t:Int)(w:World)(_hk:0<=k/\k<=10)
  (hT:Calls Tryx.prog 61 #[err] (w.alloc (.cells #[.int .i64 0,.int .i64 0,.int .i64 0,.bool false] 39)) fun e w'=>e=.returned (.tuple #[.int .i64 k,.int .i64 r,.int .i64 t])/\Below (w.heap.size+1) (w.alloc (.cells #[.int .i64 0,.int .i64 0,.int .i64 0,.bool false] 39)) w')
  (hI:∀ (i:Int) (W:World),1<=i->i<=10->Below w.heap.size w W->Calls Tryx.prog 62 #[err,errK i] W fun e w'=>e=.returned (.bool (k == i))/\W=w'):
  Calls Tryx.prog 34 #[err] w fun e w'=>e=.returned (plErr k r t)/\Below w.heap.size w w':=by
 have HT:=Lib.hid hT
 have HI:=Lib.hid hI
 clear hT hI
 go_enter Tryx.func34,Tryz.ntmps34
 go_wp2_with fail
 refine HT.out.mono ?_
 rintro e w1 ⟨rfl,hb⟩
 go_wp2_with fail
 have hbW:Below w.heap.size w (w1.alloc (.cells #[.int .i64 k,.int .i64 r,.int .i64 t,.bool true] 39)):=
  ((((Below.refl _ _).alloc (Nat.le_refl _) _).trans (hb.mono (by omega))).alloc (by have:=hb.size;simp at this;omega) _)
 have hbd:w.heap.size<w1.heap.size:=by have:=hb.size;simp at this;omega
 go_loop [7] (fun i=>∃ j:Int,1<=j/\j<=11/\i=.int .i64 j) (fun i=>(11 - intOf i).toNat)
 case atStart=>exact ⟨1,by omega,by omega,rfl⟩
 case round=>
  obtain⟨j,hj1,hj2,rfl⟩:=hrel
  by_cases hlt:j<=10
  ·have hs:(j == k)=(k == j):=by rw[Bool.eq_iff_iff];simp;exact eq_comm
   have hs2:((k == j) != (k == j))=false:=by simp
   have HW:=Lib.hid hbW
   clear hbW
   go_wp2_with (go_at_call 62;refine (HI.out j _ (by omega) (by omega) HW.out).mono ?_;rintro e w' ⟨rfl,rfl⟩)
   go_round
   case rel=>exact ⟨j+1,by omega,by omega,rfl⟩
   case measure=>simp [intOf];omega
  ·have hc:∀ i,w1.cell? ⟨w.heap.size,i,none⟩=(#[.int .i64 0,.int .i64 0,.int .i64 0,.bool false]:Array Value)[i]?:=fun i=>(hb.cell (p:=⟨w.heap.size,i,none⟩) (by show w.heap.size<_;omega)).trans (by simp)
   have hf:∀ i,w1.frozen? ⟨w.heap.size,i,none⟩=false:=fun i=>(hb.frozen (p:=⟨w.heap.size,i,none⟩) (by show w.heap.size<_;omega)).trans (by simp)
   have c0:=hc 0
   have c1:=hc 1
   have c2:=hc 2
   have c3:=hc 3
   have f0:=hf 0
   have f1:=hf 1
   have f2:=hf 2
   have f3:=hf 3
   simp at c0 c1 c2 c3
   have HW:=Lib.hid hbW
   clear hc hf hbW
   go_wp2
   refine bodyPost_ret (v:=plErr k r t) ?_ rfl ⟨rfl,?_⟩
   ·simp[results,Tryz.results34,go_sem,c0,c1,c2,c3,hbd]
   ·have hb0:Below w.heap.size w w1:=((Below.refl _ _).alloc (Nat.le_refl _) _).trans (hb.mono (by omega))
    go_grown
theorem told_nil(w:World):Calls Tryx.prog 34 #[.nilIface] w fun e w'=>e=.returned (plErr 0 (-1) 0)/\Below w.heap.size w w':=by
 refine told_of _ 0 (-1) 0 w (by omega) ((apiTold_nil _).mono fun e w' ⟨he,hb⟩=>⟨he,by simpa using hb⟩) fun i W h1 h2 _=>(is_nil i W).mono fun e w' ⟨he,hw⟩=>⟨?_,hw⟩
 have:((0:Int) == i)=false:=by simp;omega
 rw[he,this]
theorem told_K(k:Int)(w:World)(hk:0<=k/\k<=10)(hg:ErrVar w):Calls Tryx.prog 34 #[errK k] w fun e w'=>e=.returned (plErr k (-1) 0)/\Below w.heap.size w w':=
 told_of _ k (-1) 0 w hk ((apiTold_K k _ (hg.alloc _)).mono fun e w' ⟨he,hb⟩=>⟨he,by simpa using hb⟩) fun i W h1 h2 _=>is_kind k i W
theorem told_R(p:Nat)(r t k:Int)(w:World)(hk:0<=k/\k<=10)(hg:ErrVar w)(hp:ReqErr w p r t k):Calls Tryx.prog 34 #[errR p] w fun e w'=>e=.returned (plErr k r t)/\Below w.heap.size w w':=
 told_of _ k r t w hk ((apiTold_R p r t k _ (hg.alloc _) (hp.chg ((Chg.refl (fun _=>False) w).alloc _) (fun h=>h))).mono fun e w' ⟨he,hb⟩=>⟨he,by simpa using hb⟩) fun i W h1 h2 hb=>is_req p r t k i W (hp.chg (chgB hb (fun _=>False)) (fun h=>h))
end
end Go.Proofs.YticobikhndlejaaGreatDoor
